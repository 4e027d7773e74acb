/-
The next epoch by the program: members that join, the number and the root.
No conditions.
-/
import Derived.Test.YtgfpcjomgmdapaaNxA
import Derived.Test.YtgfpcjomgmdapaaHsA
namespace Go.Proofs.Ytgfpcjomgmdapaa
open Go Go.Vc
set_option maxHeartbeats 4000000
set_option maxRecDepth 10000
def fsts (js : List (Int × Int)) : List Int := js.map (·.1)
def snds (js : List (Int × Int)) : List Int := js.map (·.2)
theorem fsts_succ {js : List (Int × Int)} {i : Nat} {p : Int × Int} (h : js[i]? = some p) : fsts (js.take (i + 1)) = fsts (js.take i) ++ [p.1] := by simp [fsts, List.take_add_one, h]
theorem snds_succ {js : List (Int × Int)} {i : Nat} {p : Int × Int} (h : js[i]? = some p) : snds (js.take (i + 1)) = snds (js.take i) ++ [p.2] := by simp [snds, List.take_add_one, h]
def c_impl_change_admit : Con := ⟨0, 1, true, fun xs hs _ K => match xs, hs with
  | [.ptr 0 0], [.cells [.val (.int .i64 n), .own 1, .own 2, .val (.int .i64 r), .ints gs, .sl 2 l, .val (.int .i64 r2)], .iarr c, .iarr k] =>
    ∃ js, l = rows2 js ∧ c.length < 2000000 ∧ k.length < 2000000 ∧ js.length < 2000000 ∧
      K (B (decide (js.length ≤ 7))) [.cells [I n, .own 1, .own 2, I r, .ints gs, .sl 2 (rows2 js), I r2], .iarr (if js.length ≤ 7 then c ++ fsts js else c), .iarr (if js.length ≤ 7 then k ++ snds js else k)] []
  | _, _ => False⟩
theorem k_impl_change_admit : Keeps' Try.prog 35 c_impl_change_admit := by
  refine keeps_of_vc mix TyT_ok cok_nil Try.func35 rfl rfl rfl ?_
  intro aargs hs Fs K h
  simp only [c_impl_change_admit] at h
  split at h
  case h_2 => exact h.elim
  rename_i n r gs l r2 c k
  obtain ⟨js, rfl, h1, h2, h3, h⟩ := h
  have hl := rows2_len js
  repeat' (first
    | ((conv => whnf); (first
      | refine draw_plan (id := 6) [] [13] (.take 0 (.take 1 (.take 2 (.take 3 (.take 4 (.take 5 (.take 6 (.take 7 (.run 8 (.run 9 (.take 10 (.take 11 (.take 12 (.run 13 .done)))))))))))))) (by kernel_rfl) (by kernel_rfl) ?_
      | refine draw_plan (id := 7) [] [13] (.take 0 (.take 1 (.take 2 (.take 3 (.take 4 (.take 5 (.take 6 (.take 7 (.run 8 (.run 9 (.take 10 (.take 11 (.take 12 (.run 13 .done)))))))))))))) (by kernel_rfl) (by kernel_rfl) ?_
      | refine brK_dec (fun _ => ?_) (fun _ => ?_)
      | refine brK_ndec (fun _ => ?_) (fun _ => ?_)
      | refine brK_not (fun _ => ?_) (fun _ => ?_)
      | refine brK_in (fun _ => ?_) (fun _ => ?_)
      | refine And.intro (by first | exact rfl | exact (by rw [rows2_len]; omega) | exact ⟨_, rfl, rfl⟩ | exact ⟨rfl, rfl, rfl⟩ | exact of_decide_eq_true rfl | exact trivial | assumption | omega | (show (_ ≤ _ ∧ _ ≤ _); omega) | (simp; omega) | exact ⟨by first | omega | (simp; omega), _, rfl, rfl⟩) ?_
      | refine Both.mk ?_ ?_
      | refine Exists.intro _ (And.intro rfl ?_)
      | refine fun _ => ?_))
    | exact rfl)
  · rename_i hb
    have : ¬ js.length ≤ 7 := by omega
    simp only [this, decide_false, if_false] at h
    exact h
  rename_i hb
  have hj : js.length ≤ 7 := by omega
  simp only [hj, decide_true, if_true] at h
  refine loop_in (ι := Nat) (fun i => mkS 47 [(0, .ptr 0 0), (2, B false), (14, .sl 2 (rows2 js)), (15, I js.length), (16, I i)] [.cells [I n, .own 1, .own 2, I r, .ints gs, .sl 2 (rows2 js), I r2], .iarr (c ++ fsts (js.take i)), .iarr (k ++ snds (js.take i))] Fs) (fun i => i ≤ js.length) (fun i => js.length - i) 0 [0, 1, 2] (Nat.zero_le _) ?_ ?_
  · repeat' (first
      | ((conv => whnf); (first
        | refine brK_dec (fun _ => ?_) (fun _ => ?_)
        | refine brK_ndec (fun _ => ?_) (fun _ => ?_)
        | refine brK_not (fun _ => ?_) (fun _ => ?_)
        | refine brK_in (fun _ => ?_) (fun _ => ?_)
        | refine And.intro (by first | exact rfl | exact (by first | rw [rows2_len] | (simp [fsts, snds]; done)) | exact ⟨_, rfl, rfl⟩ | exact ⟨rfl, rfl, rfl⟩ | exact of_decide_eq_true rfl | exact trivial | assumption | omega | (show (_ ≤ _ ∧ _ ≤ _); omega) | (simp; omega) | exact ⟨by first | omega | (simp; omega), _, rfl, rfl⟩) ?_
        | refine Both.mk ?_ ?_
        | refine Exists.intro _ (And.intro rfl ?_)
        | refine fun _ => ?_))
      | exact rfl)
  intro i hi
  have f1 : (fsts (js.take i)).length ≤ 7 := by simp [fsts]; omega
  have f2 : (snds (js.take i)).length ≤ 7 := by simp [snds]; omega
  repeat' (first
    | ((conv => whnf); (first
      | refine draw_plan (id := 6) [] [13] (.take 0 (.take 1 (.take 2 (.take 3 (.take 4 (.take 5 (.take 6 (.take 7 (.run 8 (.run 9 (.take 10 (.take 11 (.take 12 (.run 13 .done)))))))))))))) (by kernel_rfl) (by kernel_rfl) ?_
      | refine draw_plan (id := 7) [] [13] (.take 0 (.take 1 (.take 2 (.take 3 (.take 4 (.take 5 (.take 6 (.take 7 (.run 8 (.run 9 (.take 10 (.take 11 (.take 12 (.run 13 .done)))))))))))))) (by kernel_rfl) (by kernel_rfl) ?_
      | refine brK_dec (fun _ => ?_) (fun _ => ?_)
      | refine brK_ndec (fun _ => ?_) (fun _ => ?_)
      | refine brK_not (fun _ => ?_) (fun _ => ?_)
      | refine brK_in (fun _ => ?_) (fun _ => ?_)
      | refine And.intro (by first | exact rfl | exact (by rw [rows2_len]; omega) | exact ⟨_, rfl, rfl⟩ | exact ⟨rfl, rfl, rfl⟩ | exact of_decide_eq_true rfl | exact trivial | assumption | omega | (show (_ ≤ _ ∧ _ ≤ _); omega) | (simp; omega) | exact ⟨by first | omega | (simp; omega), _, rfl, rfl⟩) ?_
      | refine Both.mk ?_ ?_
      | refine Exists.intro _ (And.intro rfl ?_)
      | refine fun _ => ?_))
    | exact rfl)
  · rename_i hil e he
    obtain ⟨p, hp, rfl⟩ := rows2_get he
    have hp : js[i]? = some p := hp
    have e1 := fsts_succ hp
    have e2 := snds_succ hp
    repeat' (first
      | ((conv => whnf); (first
        | refine draw_plan (id := 6) [1] [13] (.take 0 (.take 1 (.take 2 (.take 3 (.take 4 (.take 5 (.take 6 (.take 7 (.run 8 (.run 9 (.take 10 (.take 11 (.take 12 (.run 13 .done)))))))))))))) (by kernel_rfl) (by kernel_rfl) ?_
        | refine draw_plan (id := 7) [2] [13] (.take 0 (.take 1 (.take 2 (.take 3 (.take 4 (.take 5 (.take 6 (.take 7 (.run 8 (.run 9 (.take 10 (.take 11 (.take 12 (.run 13 .done)))))))))))))) (by kernel_rfl) (by kernel_rfl) ?_
        | refine brK_dec (fun _ => ?_) (fun _ => ?_)
        | refine brK_ndec (fun _ => ?_) (fun _ => ?_)
        | refine brK_not (fun _ => ?_) (fun _ => ?_)
        | refine brK_in (fun _ => ?_) (fun _ => ?_)
        | refine And.intro (by first | exact rfl | exact (by first | (rw [List.length_append]; omega) | (simp only [List.length_append, List.length_singleton]; omega)) | exact ⟨_, rfl, rfl⟩ | exact ⟨rfl, rfl, rfl⟩ | exact of_decide_eq_true rfl | exact trivial | assumption | omega | (show (_ ≤ _ ∧ _ ≤ _); omega) | (simp; omega) | exact ⟨by first | omega | (simp; omega), _, rfl, rfl⟩) ?_
        | refine Both.mk ?_ ?_
        | refine Exists.intro _ (And.intro rfl ?_)
        | refine fun _ => ?_))
      | exact rfl)
    refine ⟨i + 1, [0, 1, 2], by omega, by omega, ?_⟩
    repeat' (first
      | ((conv => whnf); (first
        | refine brK_dec (fun _ => ?_) (fun _ => ?_)
        | refine brK_ndec (fun _ => ?_) (fun _ => ?_)
        | refine brK_not (fun _ => ?_) (fun _ => ?_)
        | refine brK_in (fun _ => ?_) (fun _ => ?_)
        | refine And.intro (by first | exact rfl | exact (by first | (rw [e1, List.take_length, List.append_assoc]; done) | (rw [e2, List.take_length, List.append_assoc]; done)) | exact ⟨_, rfl, rfl⟩ | exact ⟨rfl, rfl, rfl⟩ | exact of_decide_eq_true rfl | exact trivial | assumption | omega | (show (_ ≤ _ ∧ _ ≤ _); omega) | (simp; omega) | exact ⟨by first | omega | (simp; omega), _, rfl, rfl⟩) ?_
        | refine Both.mk ?_ ?_
        | refine Exists.intro _ (And.intro rfl ?_)
        | refine fun _ => ?_))
      | exact rfl)
  · rename_i hil
    obtain rfl : i = js.length := by omega
    rw [List.take_length] at *
    exact h
def c_impl_change_advance : Con := ⟨0, 1, true, fun xs hs _ K => match xs, hs with
  | [.ptr 0 0], [.cells [.val (.int .i64 n), .own 1, .own 2, .val (.int .i64 r), .ints gs, .sl 2 l, .val (.int .i64 r2)], .iarr c, .iarr k] =>
    0 ≤ n ∧ n < 1000 ∧ c.length < 2000000 ∧ k.length < 2000000 ∧
      K (B (EpV (n + 1) c k r2)) [.cells [I (n + 1), .own 1, .own 2, I r2, .ints gs, .sl 2 l, I r2], .iarr c, .iarr k] []
  | _, _ => False⟩
theorem k_impl_change_advance : Keeps' Try.prog 36 c_impl_change_advance := by
  refine keeps_of_vc mix TyT_ok (cok_cons k_impl_EpochValid Try.func25 rfl rfl cok_nil) Try.func36 rfl rfl rfl ?_
  intro aargs hs Fs K h
  simp only [c_impl_change_advance] at h
  split at h
  case h_2 => exact h.elim
  rename_i n r gs l r2 c k
  obtain ⟨h0, h1, h2, h3, h⟩ := h
  repeat' (first
    | ((conv => whnf); (first
      | refine brK_dec (fun _ => ?_) (fun _ => ?_)
      | refine brK_ndec (fun _ => ?_) (fun _ => ?_)
      | refine brK_not (fun _ => ?_) (fun _ => ?_)
      | refine brK_in (fun _ => ?_) (fun _ => ?_)
      | refine And.intro (by first | exact rfl | exact ⟨_, rfl, rfl⟩ | exact ⟨rfl, rfl, rfl⟩ | exact of_decide_eq_true rfl | exact trivial | assumption | omega | (show (_ ≤ _ ∧ _ ≤ _); omega) | (simp; omega) | exact ⟨by first | omega | (simp; omega), _, rfl, rfl⟩) ?_
      | refine Both.mk ?_ ?_
      | refine Exists.intro _ (And.intro rfl ?_)
      | refine fun _ => ?_))
    | exact rfl)
  exact h
end Go.Proofs.Ytgfpcjomgmdapaa
