/-
The next epoch by the reference.
No conditions.
-/
import Derived.Test.YtgfpcjomgmdapaaNxC
namespace Go.Proofs.Ytgfpcjomgmdapaa
open Go Go.Vc
set_option maxHeartbeats 4000000
set_option maxRecDepth 10000
theorem keepN_yes {l gs : List Int} {i : Nat} {x : Int} (hx : l[i]? = some x) (h : (i : Int) ∉ gs) : keepN l gs (i + 1) = keepN l gs i ++ [x] := by
  rw [keepN_succ, if_neg h]
  simp [List.getD, hx]
theorem keepN_no {l gs : List Int} {i : Nat} (h : (i : Int) ∈ gs) : keepN l gs (i + 1) = keepN l gs i := by
  rw [keepN_succ, if_pos h, List.append_nil]
theorem k_spec_EpochNext : Keeps' Try.prog 9 c_impl_EpochNext := by
  refine keeps_of_vc mix TyT_ok (cok_cons k_spec_EpochValid Try.func29 rfl rfl (cok_cons k_spec_l1Members Try.func30 rfl rfl (cok_cons k_spec_l1Has Try.func31 rfl rfl cok_nil))) Try.func9 rfl rfl rfl ?_
  intro aargs hs Fs K h
  simp only [c_impl_EpochNext] at h
  split at h
  case h_2 => exact h.elim
  rename_i n c k r gs l r2
  obtain ⟨js, rfl, rfl, h1, h2, h3, h4, hy, hn⟩ := h
  have hl := rows2_len js
  repeat' (first
    | ((conv => whnf); (first
      | refine draw_plan (id := 8) [] [10] (.take 0 (.take 1 (.take 2 (.take 3 (.take 4 (.take 5 (.take 6 (.run 7 (.run 8 (.take 9 (.run 10 .done))))))))))) (by kernel_rfl) (by kernel_rfl) ?_
      | refine draw_plan (id := 9) [] [10] (.take 0 (.take 1 (.take 2 (.take 3 (.take 4 (.take 5 (.take 6 (.run 7 (.run 8 (.take 9 (.run 10 .done))))))))))) (by kernel_rfl) (by kernel_rfl) ?_
      | refine draw_plan (id := 13) [] [10] (.take 0 (.take 1 (.take 2 (.take 3 (.take 4 (.take 5 (.take 6 (.run 7 (.run 8 (.take 9 (.run 10 .done))))))))))) (by kernel_rfl) (by kernel_rfl) ?_
      | refine draw_plan (id := 14) [] [10] (.take 0 (.take 1 (.take 2 (.take 3 (.take 4 (.take 5 (.take 6 (.run 7 (.run 8 (.take 9 (.run 10 .done))))))))))) (by kernel_rfl) (by kernel_rfl) ?_
      | refine brK_dec (fun _ => ?_) (fun _ => ?_)
      | refine brK_ndec (fun _ => ?_) (fun _ => ?_)
      | refine brK_not (fun _ => ?_) (fun _ => ?_)
      | refine brK_in (fun _ => ?_) (fun _ => ?_)
      | refine And.intro (by first | exact rfl | exact ⟨_, rfl, rfl⟩ | exact ⟨rfl, rfl, rfl⟩ | exact of_decide_eq_true rfl | exact trivial | assumption | omega | (show (_ ≤ _ ∧ _ ≤ _); omega) | (simp; omega) | exact ⟨by first | omega | (simp; omega), _, rfl, rfl⟩) ?_
      | refine Both.mk ?_ ?_
      | refine Exists.intro _ (And.intro rfl ?_)
      | refine fun _ => ?_))
    | exact rfl)
  · rename_i hv
    exact hn (by simp [nxV, hv])
  · rename_i hv hm
    exact hn (by simp [nxV, hm])
  rename_i hv hm
  obtain ⟨q1, q2, q3, q4, q5⟩ := epV_out hv
  repeat' (first
    | ((conv => whnf); (first
      | refine draw_plan (id := 8) [] [10] (.take 0 (.take 1 (.take 2 (.take 3 (.take 4 (.take 5 (.take 6 (.run 7 (.run 8 (.take 9 (.run 10 .done))))))))))) (by kernel_rfl) (by kernel_rfl) ?_
      | refine draw_plan (id := 9) [] [10] (.take 0 (.take 1 (.take 2 (.take 3 (.take 4 (.take 5 (.take 6 (.run 7 (.run 8 (.take 9 (.run 10 .done))))))))))) (by kernel_rfl) (by kernel_rfl) ?_
      | refine draw_plan (id := 13) [] [10] (.take 0 (.take 1 (.take 2 (.take 3 (.take 4 (.take 5 (.take 6 (.run 7 (.run 8 (.take 9 (.run 10 .done))))))))))) (by kernel_rfl) (by kernel_rfl) ?_
      | refine draw_plan (id := 14) [] [10] (.take 0 (.take 1 (.take 2 (.take 3 (.take 4 (.take 5 (.take 6 (.run 7 (.run 8 (.take 9 (.run 10 .done))))))))))) (by kernel_rfl) (by kernel_rfl) ?_
      | refine brK_dec (fun _ => ?_) (fun _ => ?_)
      | refine brK_ndec (fun _ => ?_) (fun _ => ?_)
      | refine brK_not (fun _ => ?_) (fun _ => ?_)
      | refine brK_in (fun _ => ?_) (fun _ => ?_)
      | refine And.intro (by first | exact rfl | exact ⟨_, rfl, rfl⟩ | exact ⟨rfl, rfl, rfl⟩ | exact of_decide_eq_true rfl | exact trivial | assumption | omega | (show (_ ≤ _ ∧ _ ≤ _); omega) | (simp; omega) | exact ⟨by first | omega | (simp; omega), _, rfl, rfl⟩) ?_
      | refine Both.mk ?_ ?_
      | refine Exists.intro _ (And.intro rfl ?_)
      | refine fun _ => ?_))
    | exact rfl)
  refine loop_in (ι := Nat) (fun i => mkS 93 [(1, .ints gs), (2, .sl 2 (rows2 js)), (4, .ptr 0 0), (8, .ptr 1 0), (9, B false), (10, .ptr 4 0), (11, I i)] [.cells [I n, .ints c, .ints k, I r], .cells [I 0, .val (.slice none 0 0), .val (.slice none 0 0), I 0], .iarr (keepN c gs i), .iarr (keepN k gs i), .cells [I (n + 1), .own 2, .own 3, I r2]] Fs)
    (fun i => i ≤ c.length) (fun i => c.length - i) 0 [0, 1, 2, 3, 4] (Nat.zero_le _) ?_ ?_
  · repeat' (first
      | ((conv => whnf); (first
        | refine brK_dec (fun _ => ?_) (fun _ => ?_)
        | refine brK_ndec (fun _ => ?_) (fun _ => ?_)
        | refine brK_not (fun _ => ?_) (fun _ => ?_)
        | refine brK_in (fun _ => ?_) (fun _ => ?_)
        | refine And.intro (by first | exact rfl | exact ⟨_, rfl, rfl⟩ | exact ⟨rfl, rfl, rfl⟩ | exact of_decide_eq_true rfl | exact trivial | assumption | omega | (show (_ ≤ _ ∧ _ ≤ _); omega) | (simp; omega) | exact ⟨by first | omega | (simp; omega), _, rfl, rfl⟩) ?_
        | refine Both.mk ?_ ?_
        | refine Exists.intro _ (And.intro rfl ?_)
        | refine fun _ => ?_))
      | exact rfl)
  intro i hi
  have l1 := keepN_len c gs i
  have l2 := keepN_len k gs i
  repeat' (first
    | ((conv => whnf); (first
      | refine draw_plan (id := 8) [2] [10] (.take 0 (.take 1 (.take 2 (.take 3 (.take 4 (.take 5 (.take 6 (.run 7 (.run 8 (.take 9 (.run 10 .done))))))))))) (by kernel_rfl) (by kernel_rfl) ?_
      | refine draw_plan (id := 9) [3] [10] (.take 0 (.take 1 (.take 2 (.take 3 (.take 4 (.take 5 (.take 6 (.run 7 (.run 8 (.take 9 (.run 10 .done))))))))))) (by kernel_rfl) (by kernel_rfl) ?_
      | refine draw_plan (id := 13) [] [10] (.take 0 (.take 1 (.take 2 (.take 3 (.take 4 (.take 5 (.take 6 (.run 7 (.run 8 (.take 9 (.run 10 .done))))))))))) (by kernel_rfl) (by kernel_rfl) ?_
      | refine draw_plan (id := 14) [] [10] (.take 0 (.take 1 (.take 2 (.take 3 (.take 4 (.take 5 (.take 6 (.run 7 (.run 8 (.take 9 (.run 10 .done))))))))))) (by kernel_rfl) (by kernel_rfl) ?_
      | refine brK_dec (fun _ => ?_) (fun _ => ?_)
      | refine brK_ndec (fun _ => ?_) (fun _ => ?_)
      | refine brK_not (fun _ => ?_) (fun _ => ?_)
      | refine brK_in (fun _ => ?_) (fun _ => ?_)
      | refine And.intro (by first | exact rfl | exact (by first | (rw [List.length_append]; omega) | (simp only [List.length_append, List.length_singleton]; omega)) | exact ⟨_, rfl, rfl⟩ | exact ⟨rfl, rfl, rfl⟩ | exact of_decide_eq_true rfl | exact trivial | assumption | omega | (show (_ ≤ _ ∧ _ ≤ _); omega) | (simp; omega) | exact ⟨by first | omega | (simp; omega), _, rfl, rfl⟩) ?_
      | refine Both.mk ?_ ?_
      | refine Exists.intro _ (And.intro rfl ?_)
      | refine fun _ => ?_))
    | exact rfl)
  · rename_i hil hnm x hx y hy'
    have e1 := keepN_yes hx hnm
    have e2 := keepN_yes hy' hnm
    refine ⟨i + 1, [0, 1, 2, 3, 4], by omega, by omega, ?_⟩
    repeat' (first
      | ((conv => whnf); (first
        | refine brK_dec (fun _ => ?_) (fun _ => ?_)
        | refine brK_ndec (fun _ => ?_) (fun _ => ?_)
        | refine brK_not (fun _ => ?_) (fun _ => ?_)
        | refine brK_in (fun _ => ?_) (fun _ => ?_)
        | refine And.intro (by first | exact rfl | exact (by first | (rw [List.take_length]; exact e1) | (rw [List.take_length]; exact e2)) | exact ⟨_, rfl, rfl⟩ | exact ⟨rfl, rfl, rfl⟩ | exact of_decide_eq_true rfl | exact trivial | assumption | omega | (show (_ ≤ _ ∧ _ ≤ _); omega) | (simp; omega) | exact ⟨by first | omega | (simp; omega), _, rfl, rfl⟩) ?_
        | refine Both.mk ?_ ?_
        | refine Exists.intro _ (And.intro rfl ?_)
        | refine fun _ => ?_))
      | exact rfl)
  · rename_i hil hnm
    have e1 := keepN_no (l := c) hnm
    have e2 := keepN_no (l := k) hnm
    refine ⟨i + 1, [0, 1, 2, 3, 4], by omega, by omega, ?_⟩
    repeat' (first
      | ((conv => whnf); (first
        | refine brK_dec (fun _ => ?_) (fun _ => ?_)
        | refine brK_ndec (fun _ => ?_) (fun _ => ?_)
        | refine brK_not (fun _ => ?_) (fun _ => ?_)
        | refine brK_in (fun _ => ?_) (fun _ => ?_)
        | refine And.intro (by first | exact rfl | exact (by first | exact e1 | exact e2) | exact ⟨_, rfl, rfl⟩ | exact ⟨rfl, rfl, rfl⟩ | exact of_decide_eq_true rfl | exact trivial | assumption | omega | (show (_ ≤ _ ∧ _ ≤ _); omega) | (simp; omega) | exact ⟨by first | omega | (simp; omega), _, rfl, rfl⟩) ?_
        | refine Both.mk ?_ ?_
        | refine Exists.intro _ (And.intro rfl ?_)
        | refine fun _ => ?_))
      | exact rfl)
  rename_i hil
  obtain rfl : i = c.length := by omega
  refine loop_in (ι := Nat) (fun j => mkS 93 [(2, .sl 2 (rows2 js)), (8, .ptr 0 0), (9, B false), (10, .ptr 3 0), (12, I j)] [.cells [I 0, .val (.slice none 0 0), .val (.slice none 0 0), I 0], .iarr (keepN c gs c.length ++ fsts (js.take j)), .iarr (keepN k gs c.length ++ snds (js.take j)), .cells [I (n + 1), .own 1, .own 2, I r2]] Fs)
    (fun j => j ≤ js.length) (fun j => js.length - j) 0 [1, 2, 3, 4] (Nat.zero_le _) ?_ ?_
  · repeat' (first
      | ((conv => whnf); (first
        | refine brK_dec (fun _ => ?_) (fun _ => ?_)
        | refine brK_ndec (fun _ => ?_) (fun _ => ?_)
        | refine brK_not (fun _ => ?_) (fun _ => ?_)
        | refine brK_in (fun _ => ?_) (fun _ => ?_)
        | refine And.intro (by first | exact rfl | exact (by simp [fsts, snds]) | exact ⟨_, rfl, rfl⟩ | exact ⟨rfl, rfl, rfl⟩ | exact of_decide_eq_true rfl | exact trivial | assumption | omega | (show (_ ≤ _ ∧ _ ≤ _); omega) | (simp; omega) | exact ⟨by first | omega | (simp; omega), _, rfl, rfl⟩) ?_
        | refine Both.mk ?_ ?_
        | refine Exists.intro _ (And.intro rfl ?_)
        | refine fun _ => ?_))
      | exact rfl)
  intro j hj
  have f1 : (fsts (js.take j)).length ≤ 2000000 := by simp [fsts]; omega
  have f2 : (snds (js.take j)).length ≤ 2000000 := by simp [snds]; omega
  repeat' (first
    | ((conv => whnf); (first
      | refine draw_plan (id := 8) [] [10] (.take 0 (.take 1 (.take 2 (.take 3 (.take 4 (.take 5 (.take 6 (.run 7 (.run 8 (.take 9 (.run 10 .done))))))))))) (by kernel_rfl) (by kernel_rfl) ?_
      | refine draw_plan (id := 9) [] [10] (.take 0 (.take 1 (.take 2 (.take 3 (.take 4 (.take 5 (.take 6 (.run 7 (.run 8 (.take 9 (.run 10 .done))))))))))) (by kernel_rfl) (by kernel_rfl) ?_
      | refine draw_plan (id := 13) [1] [10] (.take 0 (.take 1 (.take 2 (.take 3 (.take 4 (.take 5 (.take 6 (.run 7 (.run 8 (.take 9 (.run 10 .done))))))))))) (by kernel_rfl) (by kernel_rfl) ?_
      | refine draw_plan (id := 14) [2] [10] (.take 0 (.take 1 (.take 2 (.take 3 (.take 4 (.take 5 (.take 6 (.run 7 (.run 8 (.take 9 (.run 10 .done))))))))))) (by kernel_rfl) (by kernel_rfl) ?_
      | refine brK_dec (fun _ => ?_) (fun _ => ?_)
      | refine brK_ndec (fun _ => ?_) (fun _ => ?_)
      | refine brK_not (fun _ => ?_) (fun _ => ?_)
      | refine brK_in (fun _ => ?_) (fun _ => ?_)
      | refine And.intro (by first | exact rfl | exact (by first | (rw [rows2_len]; omega) | (rw [List.length_append]; omega)) | exact ⟨_, rfl, rfl⟩ | exact ⟨rfl, rfl, rfl⟩ | exact of_decide_eq_true rfl | exact trivial | assumption | omega | (show (_ ≤ _ ∧ _ ≤ _); omega) | (simp; omega) | exact ⟨by first | omega | (simp; omega), _, rfl, rfl⟩) ?_
      | refine Both.mk ?_ ?_
      | refine Exists.intro _ (And.intro rfl ?_)
      | refine fun _ => ?_))
    | exact rfl)
  · rename_i hjl e he
    obtain ⟨p, hp, rfl⟩ := rows2_get he
    repeat' (first
      | ((conv => whnf); (first
        | refine draw_plan (id := 8) [] [10] (.take 0 (.take 1 (.take 2 (.take 3 (.take 4 (.take 5 (.take 6 (.run 7 (.run 8 (.take 9 (.run 10 .done))))))))))) (by kernel_rfl) (by kernel_rfl) ?_
        | refine draw_plan (id := 9) [] [10] (.take 0 (.take 1 (.take 2 (.take 3 (.take 4 (.take 5 (.take 6 (.run 7 (.run 8 (.take 9 (.run 10 .done))))))))))) (by kernel_rfl) (by kernel_rfl) ?_
        | refine draw_plan (id := 13) [1] [10] (.take 0 (.take 1 (.take 2 (.take 3 (.take 4 (.take 5 (.take 6 (.run 7 (.run 8 (.take 9 (.run 10 .done))))))))))) (by kernel_rfl) (by kernel_rfl) ?_
        | refine draw_plan (id := 14) [2] [10] (.take 0 (.take 1 (.take 2 (.take 3 (.take 4 (.take 5 (.take 6 (.run 7 (.run 8 (.take 9 (.run 10 .done))))))))))) (by kernel_rfl) (by kernel_rfl) ?_
        | refine brK_dec (fun _ => ?_) (fun _ => ?_)
        | refine brK_ndec (fun _ => ?_) (fun _ => ?_)
        | refine brK_not (fun _ => ?_) (fun _ => ?_)
        | refine brK_in (fun _ => ?_) (fun _ => ?_)
        | refine And.intro (by first | exact rfl | exact (by first | (rw [rows2_len]; omega) | (simp only [List.length_append, List.length_singleton]; omega)) | exact ⟨_, rfl, rfl⟩ | exact ⟨rfl, rfl, rfl⟩ | exact of_decide_eq_true rfl | exact trivial | assumption | omega | (show (_ ≤ _ ∧ _ ≤ _); omega) | (simp; omega) | exact ⟨by first | omega | (simp; omega), _, rfl, rfl⟩) ?_
        | refine Both.mk ?_ ?_
        | refine Exists.intro _ (And.intro rfl ?_)
        | refine fun _ => ?_))
      | exact rfl)
    rename_i e2 he2
    obtain ⟨p2, hp2, rfl⟩ := rows2_get he2
    rw [hp] at hp2
    cases hp2
    have hp : js[j]? = some p := hp
    have e1 := fsts_succ hp
    have e2 := snds_succ hp
    repeat' (first
      | ((conv => whnf); (first
        | refine draw_plan (id := 8) [] [10] (.take 0 (.take 1 (.take 2 (.take 3 (.take 4 (.take 5 (.take 6 (.run 7 (.run 8 (.take 9 (.run 10 .done))))))))))) (by kernel_rfl) (by kernel_rfl) ?_
        | refine draw_plan (id := 9) [] [10] (.take 0 (.take 1 (.take 2 (.take 3 (.take 4 (.take 5 (.take 6 (.run 7 (.run 8 (.take 9 (.run 10 .done))))))))))) (by kernel_rfl) (by kernel_rfl) ?_
        | refine draw_plan (id := 13) [1] [10] (.take 0 (.take 1 (.take 2 (.take 3 (.take 4 (.take 5 (.take 6 (.run 7 (.run 8 (.take 9 (.run 10 .done))))))))))) (by kernel_rfl) (by kernel_rfl) ?_
        | refine draw_plan (id := 14) [2] [10] (.take 0 (.take 1 (.take 2 (.take 3 (.take 4 (.take 5 (.take 6 (.run 7 (.run 8 (.take 9 (.run 10 .done))))))))))) (by kernel_rfl) (by kernel_rfl) ?_
        | refine brK_dec (fun _ => ?_) (fun _ => ?_)
        | refine brK_ndec (fun _ => ?_) (fun _ => ?_)
        | refine brK_not (fun _ => ?_) (fun _ => ?_)
        | refine brK_in (fun _ => ?_) (fun _ => ?_)
        | refine And.intro (by first | exact rfl | exact (by first | (rw [rows2_len]; omega) | (simp only [List.length_append, List.length_singleton]; omega)) | exact ⟨_, rfl, rfl⟩ | exact ⟨rfl, rfl, rfl⟩ | exact of_decide_eq_true rfl | exact trivial | assumption | omega | (show (_ ≤ _ ∧ _ ≤ _); omega) | (simp; omega) | exact ⟨by first | omega | (simp; omega), _, rfl, rfl⟩) ?_
        | refine Both.mk ?_ ?_
        | refine Exists.intro _ (And.intro rfl ?_)
        | refine fun _ => ?_))
      | exact rfl)
    refine ⟨j + 1, [0, 1, 2, 3], by have := hjl; omega, by have := hjl; omega, ?_⟩
    repeat' (first
      | ((conv => whnf); (first
        | refine brK_dec (fun _ => ?_) (fun _ => ?_)
        | refine brK_ndec (fun _ => ?_) (fun _ => ?_)
        | refine brK_not (fun _ => ?_) (fun _ => ?_)
        | refine brK_in (fun _ => ?_) (fun _ => ?_)
        | refine And.intro (by first | exact rfl | exact (by first | (rw [e1, List.take_length, List.append_assoc]; done) | (rw [e2, List.take_length, List.append_assoc]; done)) | exact ⟨_, rfl, rfl⟩ | exact ⟨rfl, rfl, rfl⟩ | exact of_decide_eq_true rfl | exact trivial | assumption | omega | (show (_ ≤ _ ∧ _ ≤ _); omega) | (simp; omega) | exact ⟨by first | omega | (simp; omega), _, rfl, rfl⟩) ?_
        | refine Both.mk ?_ ?_
        | refine Exists.intro _ (And.intro rfl ?_)
        | refine fun _ => ?_))
      | exact rfl)
  rename_i hjl
  obtain rfl : j = js.length := by omega
  rw [List.take_length] at *
  have e1 : keepN c gs c.length ++ fsts js = nxC c gs js := rfl
  have e2 : keepN k gs c.length ++ snds js = nxK k gs js := by rw [← q5]; rfl
  rw [e1, e2]
  have g1 : (nxC c gs js).length < 2000000 := by rw [← e1, List.length_append]; simp [fsts]; omega
  have g2 : (nxK k gs js).length < 2000000 := by rw [← e2, List.length_append]; simp [snds]; omega
  repeat' (first
    | ((conv => whnf); (first
      | refine draw_plan (id := 8) [] [10] (.take 0 (.take 1 (.take 2 (.take 3 (.take 4 (.take 5 (.take 6 (.run 7 (.run 8 (.take 9 (.run 10 .done))))))))))) (by kernel_rfl) (by kernel_rfl) ?_
      | refine draw_plan (id := 9) [] [10] (.take 0 (.take 1 (.take 2 (.take 3 (.take 4 (.take 5 (.take 6 (.run 7 (.run 8 (.take 9 (.run 10 .done))))))))))) (by kernel_rfl) (by kernel_rfl) ?_
      | refine draw_plan (id := 13) [] [10] (.take 0 (.take 1 (.take 2 (.take 3 (.take 4 (.take 5 (.take 6 (.run 7 (.run 8 (.take 9 (.run 10 .done))))))))))) (by kernel_rfl) (by kernel_rfl) ?_
      | refine draw_plan (id := 14) [] [10] (.take 0 (.take 1 (.take 2 (.take 3 (.take 4 (.take 5 (.take 6 (.run 7 (.run 8 (.take 9 (.run 10 .done))))))))))) (by kernel_rfl) (by kernel_rfl) ?_
      | refine brK_dec (fun _ => ?_) (fun _ => ?_)
      | refine brK_ndec (fun _ => ?_) (fun _ => ?_)
      | refine brK_not (fun _ => ?_) (fun _ => ?_)
      | refine brK_in (fun _ => ?_) (fun _ => ?_)
      | refine And.intro (by first | exact rfl | exact ⟨_, rfl, rfl⟩ | exact ⟨rfl, rfl, rfl⟩ | exact of_decide_eq_true rfl | exact trivial | assumption | omega | (show (_ ≤ _ ∧ _ ≤ _); omega) | (simp; omega) | exact ⟨by first | omega | (simp; omega), _, rfl, rfl⟩) ?_
      | refine Both.mk ?_ ?_
      | refine Exists.intro _ (And.intro rfl ?_)
      | refine fun _ => ?_))
    | exact rfl)
  · rename_i hb
    exact hn (by simp only [nxV, hb, Bool.and_false])
  · rename_i hb
    exact hy (by simp only [nxV, hv, hm, hb, Bool.true_and])
end Go.Proofs.Ytgfpcjomgmdapaa
