/-
The law on the next epoch of the program and of the reference: its contract.
No conditions.
-/
import Derived.Test.YtgfpcjomgmdapaaEjA
namespace Go.Proofs.Ytgfpcjomgmdapaa
open Go Go.Vc
set_option maxHeartbeats 4000000
set_option maxRecDepth 10000
theorem szE_topJ {c k : List Int} {n : Int} (h : ¬ szE c k n < 0) : szE c k n ≤ n := by
  unfold szE at *
  split at h
  · omega
  · rename_i h1
    rw [if_neg h1]
    have h2 := szI_le (l := c) (n := n) (by omega)
    have h3 := szI_le (l := k) (n := szI c n) (by omega)
    omega
def szL (c k s : List Int) (n : Int) : Int := if szE c k n < 0 then -1 else szI s (szE c k n)

theorem nx_lens {n : Int} {c k : List Int} {r : Int} {gs : List Int} {js : List (Int × Int)} {r2 : Int} (h : nxV n c k r gs js r2 = true) : (nxC c gs js).length ≤ 7 ∧ (nxK k gs js).length ≤ 7 := by
  simp only [nxV, Bool.and_eq_true] at h
  have := epV_out h.2.2
  omega
def c_laws_FnExactEpochNext : Con := ⟨0, 0, false, fun xs hs _ K => match xs with
  | [.agg [.val (.int .i64 _), .ints c, .ints k, .val (.int .i64 _)], .ints gs, .sl 2 l, .val (.int .i64 _)] =>
    ∃ js, l = rows2 js ∧ hs = [] ∧ c.length ≤ 9223372036854775807 ∧ k.length ≤ 9223372036854775807 ∧ gs.length ≤ 9223372036854775807 ∧ js.length ≤ 9223372036854775807 ∧ K (B true) [] []
  | _ => False⟩
theorem k_laws_FnExactEpochNext : Keeps' Try.prog 3 c_laws_FnExactEpochNext := by
  refine keeps_of_vc mix TyT_ok (cok_cons k_laws_szEpoch Try.func7 rfl rfl (cok_cons k_laws_szJoinS Try.func8 rfl rfl (cok_cons k_spec_EpochNext Try.func9 rfl rfl (cok_cons k_impl_EpochNext Try.func13 rfl rfl (cok_cons k_laws_toEpoch Try.func10 rfl rfl (cok_cons k_laws_toIntS Try.func11 rfl rfl (cok_cons k_laws_toJoinS Try.func12 rfl rfl (cok_cons (keeps_nil k_laws_eqEpoch) Try.func14 rfl rfl (cok_cons k_laws_eqIntS Try.func15 rfl rfl (cok_cons k_laws_eqJoinS Try.func16 rfl rfl (cok_cons (keeps_alt k_laws_markEpoch k_laws_markEpoch_n (by decide) rfl) Try.func17 rfl rfl (cok_cons k_laws_markIntS Try.func18 rfl rfl (cok_cons k_laws_markJoinS Try.func19 rfl rfl (cok_cons (keeps_nil k_laws_heldEpoch) Try.func20 rfl rfl cok_nil)))))))))))))) Try.func3 rfl rfl rfl ?_
  intro aargs hs Fs K h
  simp only [c_laws_FnExactEpochNext] at h
  split at h
  case h_2 => exact h.elim
  rename_i n c k r gs l r2
  obtain ⟨js, rfl, rfl, l1, l2, l3, l4, h⟩ := h
  have hl := rows2_len js
  repeat' (first
    | ((conv => whnf); (first
      | refine draw_plan (id := 17) [] [] (.take 0 (.take 1 (.run 2 (.run 3 (.take 4 .done))))) (by kernel_rfl) (by kernel_rfl) ?_
      | refine brK_dec (fun _ => ?_) (fun _ => ?_)
      | refine brK_ndec (fun _ => ?_) (fun _ => ?_)
      | refine brK_not (fun _ => ?_) (fun _ => ?_)
      | refine brK_in (fun _ => ?_) (fun _ => ?_)
      | refine And.intro (by first | exact rfl | exact ⟨_, rfl, rfl⟩ | exact ⟨rfl, rfl, rfl⟩ | exact of_decide_eq_true rfl | exact trivial | assumption | omega | (show (_ ≤ _ ∧ _ ≤ _); omega) | (simp; omega) | exact ⟨by first | omega | (simp; omega), _, rfl, rfl⟩) ?_
      | refine Both.mk ?_ ?_
      | refine Exists.intro _ (And.intro rfl ?_)
      | refine fun _ => ?_))
    | exact rfl)
  · exact h
  · exact h
  rename_i h0 h1
  obtain ⟨g1, g2⟩ := szE_le (by omega) h1
  have g3 := szE_topJ h1
  repeat' (first
    | ((conv => whnf); (first
      | refine draw_plan (id := 17) [] [] (.take 0 (.take 1 (.run 2 (.run 3 (.take 4 .done))))) (by kernel_rfl) (by kernel_rfl) ?_
      | refine brK_dec (fun _ => ?_) (fun _ => ?_)
      | refine brK_ndec (fun _ => ?_) (fun _ => ?_)
      | refine brK_not (fun _ => ?_) (fun _ => ?_)
      | refine brK_in (fun _ => ?_) (fun _ => ?_)
      | refine And.intro (by first | exact rfl | exact ⟨_, rfl, rfl⟩ | exact ⟨rfl, rfl, rfl⟩ | exact of_decide_eq_true rfl | exact trivial | assumption | omega | (show (_ ≤ _ ∧ _ ≤ _); omega) | (simp; omega) | exact ⟨by first | omega | (simp; omega), _, rfl, rfl⟩) ?_
      | refine Both.mk ?_ ?_
      | refine Exists.intro _ (And.intro rfl ?_)
      | refine fun _ => ?_))
    | exact rfl)
  · exact h
  rename_i h2
  have g4 := szJ_le h2
  rcases Bool.eq_false_or_eq_true (nxV n c k r gs js r2) with hq | hq
  · obtain ⟨w1, w2⟩ := nx_lens hq
    repeat' (first
      | ((conv => whnf); (first
        | refine draw_plan (id := 17) [] [] (.take 0 (.take 1 (.run 2 (.run 3 (.take 4 .done))))) (by kernel_rfl) (by kernel_rfl) ?_
        | refine brK_dec (fun _ => ?_) (fun _ => ?_)
        | refine brK_ndec (fun _ => ?_) (fun _ => ?_)
        | refine brK_not (fun _ => ?_) (fun _ => ?_)
        | refine brK_in (fun _ => ?_) (fun _ => ?_)
        | refine And.intro (by first | exact rfl | exact ⟨_, rfl, rfl⟩ | exact ⟨rfl, rfl, rfl⟩ | exact of_decide_eq_true rfl | exact trivial | assumption | omega | (show (_ ≤ _ ∧ _ ≤ _); omega) | (simp; omega) | exact ⟨by first | omega | (simp; omega), _, rfl, rfl⟩) ?_
        | refine Both.mk ?_ ?_
        | refine Exists.intro _ (And.intro rfl ?_)
        | refine fun _ => ?_))
      | exact rfl)
    refine ⟨fun _ => ?_, fun e => absurd (hq.symm.trans e) (by simp)⟩
    repeat' (first
      | ((conv => whnf); (first
        | refine draw_plan (id := 17) [] [] (.take 0 (.take 1 (.run 2 (.run 3 (.take 4 .done))))) (by kernel_rfl) (by kernel_rfl) ?_
        | refine brK_dec (fun _ => ?_) (fun _ => ?_)
        | refine brK_ndec (fun _ => ?_) (fun _ => ?_)
        | refine brK_not (fun _ => ?_) (fun _ => ?_)
        | refine brK_in (fun _ => ?_) (fun _ => ?_)
        | refine And.intro (by first | exact rfl | exact ⟨_, rfl, rfl⟩ | exact ⟨rfl, rfl, rfl⟩ | exact of_decide_eq_true rfl | exact trivial | assumption | omega | (show (_ ≤ _ ∧ _ ≤ _); omega) | (simp; omega) | exact ⟨by first | omega | (simp; omega), _, rfl, rfl⟩) ?_
        | refine Both.mk ?_ ?_
        | refine Exists.intro _ (And.intro rfl ?_)
        | refine fun _ => ?_))
      | exact rfl)
    refine ⟨fun _ => ?_, fun e => absurd (hq.symm.trans e) (by simp)⟩
    repeat' (first
      | ((conv => whnf); (first
        | refine draw_plan (id := 17) [] [] (.take 0 (.take 1 (.run 2 (.run 3 (.take 4 .done))))) (by kernel_rfl) (by kernel_rfl) ?_
        | refine brK_dec (fun _ => ?_) (fun _ => ?_)
        | refine brK_ndec (fun _ => ?_) (fun _ => ?_)
        | refine brK_not (fun _ => ?_) (fun _ => ?_)
        | refine brK_in (fun _ => ?_) (fun _ => ?_)
        | refine And.intro (by first | exact rfl | exact (by first | exact mkL_len _ _ | (rw [mkL_len, mkL_len]; done) | (rw [mkL_len]; done) | (rw [mkL_len]; omega)) | exact ⟨_, rfl, rfl⟩ | exact ⟨rfl, rfl, rfl⟩ | exact of_decide_eq_true rfl | exact trivial | assumption | omega | (show (_ ≤ _ ∧ _ ≤ _); omega) | (simp; omega) | exact ⟨by first | omega | (simp; omega), _, rfl, rfl⟩) ?_
        | refine Both.mk (fun e => absurd (hq.symm.trans e) (by decide)) ?_
        | refine Both.mk ?_ (fun e => absurd (hq.symm.trans e) (by decide))
        | refine Both.mk ?_ ?_
        | refine Exists.intro _ (And.intro rfl ?_)
        | refine fun _ => ?_))
      | exact rfl)
    all_goals first
      | exact h
      | (exfalso; simp_all; done)
      | skip
    (conv => whnf)
    refine ⟨js, js, rfl, rfl, ?_⟩
    repeat' (first
      | ((conv => whnf); (first
        | refine draw_plan (id := 17) [] [] (.take 0 (.take 1 (.run 2 (.run 3 (.take 4 .done))))) (by kernel_rfl) (by kernel_rfl) ?_
        | refine brK_dec (fun _ => ?_) (fun _ => ?_)
        | refine brK_ndec (fun _ => ?_) (fun _ => ?_)
        | refine brK_not (fun _ => ?_) (fun _ => ?_)
        | refine brK_in (fun _ => ?_) (fun _ => ?_)
        | refine And.intro (by first | exact rfl | exact (by first | exact mkL_len _ _ | (rw [mkL_len, mkL_len]; done) | (rw [mkL_len]; done) | (rw [mkL_len]; omega)) | exact ⟨_, rfl, rfl⟩ | exact ⟨rfl, rfl, rfl⟩ | exact of_decide_eq_true rfl | exact trivial | assumption | omega | (show (_ ≤ _ ∧ _ ≤ _); omega) | (simp; omega) | exact ⟨by first | omega | (simp; omega), _, rfl, rfl⟩) ?_
        | refine Both.mk ?_ ?_
        | refine Exists.intro _ (And.intro rfl ?_)
        | refine fun _ => ?_))
      | exact rfl)
    all_goals first
      | exact h
      | (exfalso; simp_all; done)
      | skip
    (conv => whnf)
    refine Or.inl ?_
    repeat' (first
      | ((conv => whnf); (first
        | refine draw_plan (id := 17) [] [] (.take 0 (.take 1 (.run 2 (.run 3 (.take 4 .done))))) (by kernel_rfl) (by kernel_rfl) ?_
        | refine brK_dec (fun _ => ?_) (fun _ => ?_)
        | refine brK_ndec (fun _ => ?_) (fun _ => ?_)
        | refine brK_not (fun _ => ?_) (fun _ => ?_)
        | refine brK_in (fun _ => ?_) (fun _ => ?_)
        | refine And.intro (by first | exact rfl | exact (by first | exact mkL_len _ _ | (rw [mkL_len, mkL_len]; done) | (rw [mkL_len]; done) | (rw [mkL_len]; omega)) | exact ⟨_, rfl, rfl⟩ | exact ⟨rfl, rfl, rfl⟩ | exact of_decide_eq_true rfl | exact trivial | assumption | omega | (show (_ ≤ _ ∧ _ ≤ _); omega) | (simp; omega) | exact ⟨by first | omega | (simp; omega), _, rfl, rfl⟩) ?_
        | refine Both.mk ?_ ?_
        | refine Exists.intro _ (And.intro rfl ?_)
        | refine fun _ => ?_))
      | exact rfl)
    all_goals first
      | exact h
      | (exfalso; simp_all; done)
      | skip
    (conv => whnf)
    refine Or.inl ?_
    repeat' (first
      | ((conv => whnf); (first
        | refine draw_plan (id := 17) [] [] (.take 0 (.take 1 (.run 2 (.run 3 (.take 4 .done))))) (by kernel_rfl) (by kernel_rfl) ?_
        | refine brK_dec (fun _ => ?_) (fun _ => ?_)
        | refine brK_ndec (fun _ => ?_) (fun _ => ?_)
        | refine brK_not (fun _ => ?_) (fun _ => ?_)
        | refine brK_in (fun _ => ?_) (fun _ => ?_)
        | refine And.intro (by first | exact rfl | exact (by first | exact mkL_len _ _ | (rw [mkL_len, mkL_len]; done) | (rw [mkL_len]; done) | (rw [mkL_len]; omega)) | exact ⟨_, rfl, rfl⟩ | exact ⟨rfl, rfl, rfl⟩ | exact of_decide_eq_true rfl | exact trivial | assumption | omega | (show (_ ≤ _ ∧ _ ≤ _); omega) | (simp; omega) | exact ⟨by first | omega | (simp; omega), _, rfl, rfl⟩) ?_
        | refine Both.mk ?_ ?_
        | refine Exists.intro _ (And.intro rfl ?_)
        | refine fun _ => ?_))
      | exact rfl)
    all_goals first
      | exact h
      | (exfalso; simp_all; done)
      | skip
    · rename_i e
      exact absurd (by rw [mkL_len, mkL_len]) e
    refine ⟨fun _ => ?_, fun e => absurd (hq.symm.trans e) (by simp)⟩
    repeat' (first
      | ((conv => whnf); (first
        | refine draw_plan (id := 17) [] [] (.take 0 (.take 1 (.run 2 (.run 3 (.take 4 .done))))) (by kernel_rfl) (by kernel_rfl) ?_
        | refine brK_dec (fun _ => ?_) (fun _ => ?_)
        | refine brK_ndec (fun _ => ?_) (fun _ => ?_)
        | refine brK_not (fun _ => ?_) (fun _ => ?_)
        | refine brK_in (fun _ => ?_) (fun _ => ?_)
        | refine And.intro (by first | exact rfl | exact (by first | exact mkL_len _ _ | (rw [mkL_len, mkL_len]; done) | (rw [mkL_len, mkL_len]; omega) | (rw [mkL_len]; done) | (rw [mkL_len]; omega)) | exact ⟨_, rfl, rfl⟩ | exact ⟨rfl, rfl, rfl⟩ | exact of_decide_eq_true rfl | exact trivial | assumption | omega | (show (_ ≤ _ ∧ _ ≤ _); omega) | (simp; omega) | exact ⟨by first | omega | (simp; omega), _, rfl, rfl⟩) ?_
        | refine Both.mk ?_ ?_
        | refine Exists.intro _ (And.intro rfl ?_)
        | refine fun _ => ?_))
      | exact rfl)
    all_goals first
      | exact h
      | (exfalso; simp_all; done)
      | skip
  · repeat' (first
      | ((conv => whnf); (first
        | refine draw_plan (id := 17) [] [] (.take 0 (.take 1 (.run 2 (.run 3 (.take 4 .done))))) (by kernel_rfl) (by kernel_rfl) ?_
        | refine brK_dec (fun _ => ?_) (fun _ => ?_)
        | refine brK_ndec (fun _ => ?_) (fun _ => ?_)
        | refine brK_not (fun _ => ?_) (fun _ => ?_)
        | refine brK_in (fun _ => ?_) (fun _ => ?_)
        | refine And.intro (by first | exact rfl | exact (by first | exact fun e => absurd (hq.symm.trans e) (by simp) | exact mkL_len _ _ | (rw [mkL_len]; done) | (rw [mkL_len]; omega)) | exact ⟨_, rfl, rfl⟩ | exact ⟨rfl, rfl, rfl⟩ | exact of_decide_eq_true rfl | exact trivial | assumption | omega | (show (_ ≤ _ ∧ _ ≤ _); omega) | (simp; omega) | exact ⟨by first | omega | (simp; omega), _, rfl, rfl⟩) ?_
        | refine Both.mk ?_ ?_
        | refine Exists.intro _ (And.intro rfl ?_)
        | refine fun _ => ?_))
      | exact rfl)
    all_goals first
      | exact h
      | (exfalso; simp_all; done)
      | skip
    (conv => whnf)
    refine ⟨js, js, rfl, rfl, ?_⟩
    repeat' (first
      | ((conv => whnf); (first
        | refine draw_plan (id := 17) [] [] (.take 0 (.take 1 (.run 2 (.run 3 (.take 4 .done))))) (by kernel_rfl) (by kernel_rfl) ?_
        | refine brK_dec (fun _ => ?_) (fun _ => ?_)
        | refine brK_ndec (fun _ => ?_) (fun _ => ?_)
        | refine brK_not (fun _ => ?_) (fun _ => ?_)
        | refine brK_in (fun _ => ?_) (fun _ => ?_)
        | refine And.intro (by first | exact rfl | exact (by first | exact fun e => absurd (hq.symm.trans e) (by simp) | exact mkL_len _ _ | (rw [mkL_len]; done) | (rw [mkL_len]; omega)) | exact ⟨_, rfl, rfl⟩ | exact ⟨rfl, rfl, rfl⟩ | exact of_decide_eq_true rfl | exact trivial | assumption | omega | (show (_ ≤ _ ∧ _ ≤ _); omega) | (simp; omega) | exact ⟨by first | omega | (simp; omega), _, rfl, rfl⟩) ?_
        | refine Both.mk ?_ ?_
        | refine Exists.intro _ (And.intro rfl ?_)
        | refine fun _ => ?_))
      | exact rfl)
    all_goals first
      | exact h
      | (exfalso; simp_all; done)
      | skip
    (conv => whnf)
    refine Or.inl ?_
    repeat' (first
      | ((conv => whnf); (first
        | refine draw_plan (id := 17) [] [] (.take 0 (.take 1 (.run 2 (.run 3 (.take 4 .done))))) (by kernel_rfl) (by kernel_rfl) ?_
        | refine brK_dec (fun _ => ?_) (fun _ => ?_)
        | refine brK_ndec (fun _ => ?_) (fun _ => ?_)
        | refine brK_not (fun _ => ?_) (fun _ => ?_)
        | refine brK_in (fun _ => ?_) (fun _ => ?_)
        | refine And.intro (by first | exact rfl | exact (by first | exact fun e => absurd (hq.symm.trans e) (by simp) | exact mkL_len _ _ | (rw [mkL_len]; done) | (rw [mkL_len]; omega)) | exact ⟨_, rfl, rfl⟩ | exact ⟨rfl, rfl, rfl⟩ | exact of_decide_eq_true rfl | exact trivial | assumption | omega | (show (_ ≤ _ ∧ _ ≤ _); omega) | (simp; omega) | exact ⟨by first | omega | (simp; omega), _, rfl, rfl⟩) ?_
        | refine Both.mk ?_ ?_
        | refine Exists.intro _ (And.intro rfl ?_)
        | refine fun _ => ?_))
      | exact rfl)
    all_goals first
      | exact h
      | (exfalso; simp_all; done)
      | skip
    (conv => whnf)
    refine Or.inr ?_
    repeat' (first
      | ((conv => whnf); (first
        | refine draw_plan (id := 17) [] [] (.take 0 (.take 1 (.run 2 (.run 3 (.take 4 .done))))) (by kernel_rfl) (by kernel_rfl) ?_
        | refine brK_dec (fun _ => ?_) (fun _ => ?_)
        | refine brK_ndec (fun _ => ?_) (fun _ => ?_)
        | refine brK_not (fun _ => ?_) (fun _ => ?_)
        | refine brK_in (fun _ => ?_) (fun _ => ?_)
        | refine And.intro (by first | exact rfl | exact (by first | exact fun e => absurd (hq.symm.trans e) (by simp) | exact mkL_len _ _ | (rw [mkL_len]; done) | (rw [mkL_len]; omega)) | exact ⟨_, rfl, rfl⟩ | exact ⟨rfl, rfl, rfl⟩ | exact of_decide_eq_true rfl | exact trivial | assumption | omega | (show (_ ≤ _ ∧ _ ≤ _); omega) | (simp; omega) | exact ⟨by first | omega | (simp; omega), _, rfl, rfl⟩) ?_
        | refine Both.mk ?_ ?_
        | refine Exists.intro _ (And.intro rfl ?_)
        | refine fun _ => ?_))
      | exact rfl)
    all_goals first
      | exact h
      | (exfalso; simp_all; done)
      | skip
end Go.Proofs.Ytgfpcjomgmdapaa
