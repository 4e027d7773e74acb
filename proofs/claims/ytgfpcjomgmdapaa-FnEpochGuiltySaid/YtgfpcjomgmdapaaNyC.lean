/-
Guilty members lose their weight.
No conditions.
-/
import Derived.Test.YtgfpcjomgmdapaaNyB
namespace Go.Proofs.Ytgfpcjomgmdapaa
open Go Go.Vc
set_option maxHeartbeats 4000000
set_option maxRecDepth 10000
def c_laws_FnEpochGuilty : Con := ⟨0, 0, false, fun xs hs _ K => match xs with
  | [.bytes b] => hs = [] ∧ b.length ≤ 9223372036854775807 ∧ K (B true) [] []
  | _ => False⟩
theorem nx_mem {n : Int} {c k : List Int} {r : Int} {gs : List Int} {js : List (Int × Int)} {r2 : Int} (h : nxV n c k r gs js r2 = true) : comV c = true ∧ memV c gs = true ∧ comV (nxC c gs js) = true ∧ EpV (n + 1) (nxC c gs js) (nxK k gs js) r2 = true := by
  simp only [nxV, Bool.and_eq_true] at h
  obtain ⟨h1, h2, h3⟩ := h
  exact ⟨(epV_out h1).2.2.1, h2, (epV_out h3).2.2.1, h3⟩
theorem sum7 {c : List Int} (h : comV c = true) : 0 ≤ c.sum ∧ c.sum ≤ 999 * c.length ∧ c.length ≤ 7 := by
  obtain ⟨l1, l2, l3⟩ := com_out h
  have := sum_bound c l3
  omega
theorem k_laws_FnEpochGuilty : Keeps' Try.prog 6 c_laws_FnEpochGuilty := by
  refine keeps_of_vc mix TyT_ok (cok_cons k_spec_DrawEpochNext Try.func21 rfl rfl (cok_cons k_impl_EpochNext Try.func13 rfl rfl (cok_cons k_spec_EpochNext Try.func9 rfl rfl (cok_cons (keeps_nil k_laws_sameEpoch) Try.func22 rfl rfl (cok_cons k_impl_CommitteeTotal Try.func26 rfl rfl (cok_cons k_impl_MembersWeight Try.func27 rfl rfl cok_nil)))))) Try.func6 rfl rfl rfl ?_
  intro aargs hs Fs K h
  simp only [c_laws_FnEpochGuilty] at h
  split at h
  case h_2 => exact h.elim
  rename_i b
  obtain ⟨rfl, hb, h⟩ := h
  repeat' (first
    | ((conv => whnf); (first
      | refine draw_plan (id := 8) [] [] (.take 0 (.take 1 (.take 3 (.take 4 (.take 6 (.take 7 (.take 8 (.run 2 (.run 5 (.run 9 (.take 10 (.take 11 (.take 12 .done))))))))))))) (by kernel_rfl) (by kernel_rfl) ?_
      | refine brK_dec (fun _ => ?_) (fun _ => ?_)
      | refine brK_ndec (fun _ => ?_) (fun _ => ?_)
      | refine brK_not (fun _ => ?_) (fun _ => ?_)
      | refine brK_in (fun _ => ?_) (fun _ => ?_)
      | refine And.intro (by first | exact rfl | exact ⟨_, rfl, rfl⟩ | exact ⟨rfl, rfl, rfl⟩ | exact of_decide_eq_true rfl | exact trivial | assumption | omega | (show (_ ≤ _ ∧ _ ≤ _); omega) | (simp; omega) | exact ⟨by first | omega | (simp; omega), _, rfl, rfl⟩) ?_
      | refine Both.mk ?_ ?_
      | refine Exists.intro _ (And.intro rfl ?_)
      | refine fun _ => ?_))
    | exact rfl)
  · exact h
  rename_i hb2 n c k r gs js r2 p1 p2 p3 p4
  have hl := rows2_len js
  obtain ⟨w1, w2⟩ := nx_ls (n := n) (r := r) (r2 := r2) (gs := gs) p1 p2 p4
  rcases Bool.eq_false_or_eq_true (nxV n c k r gs js r2) with hv | hv
  rotate_left
  · refine ⟨fun e => absurd (hv.symm.trans e) (by simp), fun _ => ?_⟩
    repeat' (first
      | ((conv => whnf); (first
        | refine draw_plan (id := 8) [] [] (.take 0 (.take 1 (.take 3 (.take 4 (.take 6 (.take 7 (.take 8 (.run 2 (.run 5 (.run 9 (.take 10 (.take 11 (.take 12 .done))))))))))))) (by kernel_rfl) (by kernel_rfl) ?_
        | refine brK_dec (fun _ => ?_) (fun _ => ?_)
        | refine brK_ndec (fun _ => ?_) (fun _ => ?_)
        | refine brK_not (fun _ => ?_) (fun _ => ?_)
        | refine brK_in (fun _ => ?_) (fun _ => ?_)
        | refine And.intro (by first | exact rfl | exact ⟨_, rfl, rfl⟩ | exact ⟨rfl, rfl, rfl⟩ | exact of_decide_eq_true rfl | exact trivial | assumption | omega | (show (_ ≤ _ ∧ _ ≤ _); omega) | (simp; omega) | exact ⟨by first | omega | (simp; omega), _, rfl, rfl⟩) ?_
        | refine Both.mk ?_ ?_
        | refine Exists.intro _ (And.intro rfl ?_)
        | refine fun _ => ?_))
      | exact rfl)
    refine ⟨fun e => absurd (hv.symm.trans e) (by simp), fun _ => ?_⟩
    repeat' (first
      | ((conv => whnf); (first
        | refine draw_plan (id := 8) [] [] (.take 0 (.take 1 (.take 3 (.take 4 (.take 6 (.take 7 (.take 8 (.run 2 (.run 5 (.run 9 (.take 10 (.take 11 (.take 12 .done))))))))))))) (by kernel_rfl) (by kernel_rfl) ?_
        | refine brK_dec (fun _ => ?_) (fun _ => ?_)
        | refine brK_ndec (fun _ => ?_) (fun _ => ?_)
        | refine brK_not (fun _ => ?_) (fun _ => ?_)
        | refine brK_in (fun _ => ?_) (fun _ => ?_)
        | refine And.intro (by first | exact rfl | exact (by first | exact w1 | exact w2) | exact ⟨_, rfl, rfl⟩ | exact ⟨rfl, rfl, rfl⟩ | exact of_decide_eq_true rfl | exact trivial | assumption | omega | (show (_ ≤ _ ∧ _ ≤ _); omega) | (simp; omega) | exact ⟨by first | omega | (simp; omega), _, rfl, rfl⟩) ?_
        | refine Both.mk ?_ ?_
        | refine Exists.intro _ (And.intro rfl ?_)
        | refine fun _ => ?_))
      | exact rfl)
    all_goals first
      | exact h
      | (exfalso; simp_all; done)
      | skip
  · refine ⟨fun _ => ?_, fun e => absurd (hv.symm.trans e) (by simp)⟩
    obtain ⟨m1, m2, m3, _⟩ := nx_mem hv
    have s1 := sum7 m1
    have s2 := sum7 m3
    repeat' (first
      | ((conv => whnf); (first
        | refine draw_plan (id := 8) [] [] (.take 0 (.take 1 (.take 3 (.take 4 (.take 6 (.take 7 (.take 8 (.run 2 (.run 5 (.run 9 (.take 10 (.take 11 (.take 12 .done))))))))))))) (by kernel_rfl) (by kernel_rfl) ?_
        | refine brK_dec (fun _ => ?_) (fun _ => ?_)
        | refine brK_ndec (fun _ => ?_) (fun _ => ?_)
        | refine brK_not (fun _ => ?_) (fun _ => ?_)
        | refine brK_in (fun _ => ?_) (fun _ => ?_)
        | refine And.intro (by first | exact rfl | exact ⟨_, rfl, rfl⟩ | exact ⟨rfl, rfl, rfl⟩ | exact of_decide_eq_true rfl | exact trivial | assumption | omega | (show (_ ≤ _ ∧ _ ≤ _); omega) | (simp; omega) | exact ⟨by first | omega | (simp; omega), _, rfl, rfl⟩) ?_
        | refine Both.mk ?_ ?_
        | refine Exists.intro _ (And.intro rfl ?_)
        | refine fun _ => ?_))
      | exact rfl)
    refine ⟨fun _ => ?_, fun e => absurd (hv.symm.trans e) (by simp)⟩
    have mm : (comV c && memV c gs) = true := by rw [m1, m2]; rfl
    have wb := wgt_bound (com_out m1).2.2 gs
    repeat' (first
      | ((conv => whnf); (first
        | refine draw_plan (id := 8) [] [] (.take 0 (.take 1 (.take 3 (.take 4 (.take 6 (.take 7 (.take 8 (.run 2 (.run 5 (.run 9 (.take 10 (.take 11 (.take 12 .done))))))))))))) (by kernel_rfl) (by kernel_rfl) ?_
        | refine brK_dec (fun _ => ?_) (fun _ => ?_)
        | refine brK_ndec (fun _ => ?_) (fun _ => ?_)
        | refine brK_not (fun _ => ?_) (fun _ => ?_)
        | refine brK_in (fun _ => ?_) (fun _ => ?_)
        | refine And.intro (by first | exact rfl | exact (by first | exact w1 | exact w2 | (rw [if_pos m1, if_pos mm]; show _ ≤ _ ∧ _ ≤ _; omega)) | exact ⟨_, rfl, rfl⟩ | exact ⟨rfl, rfl, rfl⟩ | exact of_decide_eq_true rfl | exact trivial | assumption | omega | (show (_ ≤ _ ∧ _ ≤ _); omega) | (simp; omega) | exact ⟨by first | omega | (simp; omega), _, rfl, rfl⟩) ?_
        | refine Both.mk ?_ ?_
        | refine Exists.intro _ (And.intro rfl ?_)
        | refine fun _ => ?_))
      | exact rfl)
    all_goals first
      | exact h
      | (exfalso; simp_all; done)
      | skip
    · rw [decide_eq_true ⟨rfl, rfl, rfl, rfl⟩]
      exact h
    · rename_i hj
      have hj : js = [] := List.eq_nil_of_length_eq_zero (by omega)
      subst hj
      rw [if_pos m1, if_pos mm, if_pos m3, nx_sum m2, decide_eq_true rfl]
      exact h
end Go.Proofs.Ytgfpcjomgmdapaa
