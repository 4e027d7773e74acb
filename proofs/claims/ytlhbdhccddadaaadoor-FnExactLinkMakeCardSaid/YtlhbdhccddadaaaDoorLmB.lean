/-
Links between epochs: how the program makes them.
No conditions.
-/
import Derived.Test.YtlhbdhccddadaaaDoorLmA
namespace Go.Proofs.YtlhbdhccddadaaaDoor
open Go Go.Vc
set_option maxHeartbeats 2000000
set_option maxRecDepth 10000
def c_impl_LinkMake : Con := ⟨3, 0, false, fun xs hs Fs K => match xs with
  | [.agg [.val (.int .i64 n), .ints c, .ints k, .val (.int .i64 r)], .agg [.val (.int .i64 n2), .ints c2, .ints k2, .val (.int .i64 r2)], .ints s] => hs = [] ∧ hasTab Fs ∧ c.length < 2000000 ∧ k.length < 2000000 ∧ c2.length < 2000000 ∧ k2.length < 2000000 ∧ s.length < 2000000 ∧
    Both (lmkV n c k r n2 c2 k2 r2 s = true → K (.tup [.agg [I n2, .own 0, .own 1, I r2, I (digE n2 c2 k2 r2), .own 2, I ((sgnS (digE n2 c2 k2 r2) s).sum % 997)], B true]) [.iarr c2, .iarr k2, .iarr (sgnL (sgnS (digE n2 c2 k2 r2) s) c.length)] [])
      (lmkV n c k r n2 c2 k2 r2 s = false → K (.tup [.agg [I 0, .val (.slice none 0 0), .val (.slice none 0 0), I 0, I 0, .val (.slice none 0 0), I 0], B false]) [] [])
  | _ => False⟩
theorem k_impl_LinkMake : Keeps' Tryd.prog 10 c_impl_LinkMake := by
  refine keeps_of_vc mix TyT_ok (cok_cons k_impl_follows Tryd.func34 rfl rfl (cok_cons k_impl_EpochDigest Tryd.func35 rfl rfl (cok_cons k_impl_SignMake Tryd.func36 rfl rfl (cok_cons k_impl_CertMake Tryd.func37 rfl rfl (cok_cons k_impl_cloneEpoch Tryd.func38 rfl rfl cok_nil))))) Tryd.func10 rfl rfl rfl ?_
  intro aargs hs Fs K h
  simp only [c_impl_LinkMake] at h
  split at h
  case h_2 => exact h.elim
  rename_i n c k r n2 c2 k2 r2 s
  obtain ⟨rfl, hT, l1, l2, l3, l4, l5, h⟩ := h
  by_cases hall : EpV n c k r = true ∧ EpV n2 c2 k2 r2 = true ∧ n2 = n + 1 ∧ s.length = c.length
  · obtain ⟨a1, a2, a3, a4⟩ := hall
    have af : (EpV n c k r && (EpV n2 c2 k2 r2 && decide (n2 = n + 1))) = true := by rw [a1, a2, decide_eq_true a3]; rfl
    obtain ⟨⟨n0, n1⟩, ⟨r0, r1⟩, b1, b2, b3, b4, b5⟩ := EpV_out a1
    repeat' (first
      | ((conv => whnf); (first
        | refine draw_plan (id := 13) [] [] (.take 0 (.take 2 (.run 1 (.take 3 (.run 4 (.take 5 .done)))))) (by kernel_rfl) (by kernel_rfl) ?_
        | refine brK_dec (fun _ => ?_) (fun _ => ?_)
        | refine brK_ndec (fun _ => ?_) (fun _ => ?_)
        | refine brK_not (fun _ => ?_) (fun _ => ?_)
        | refine brK_in (fun _ => ?_) (fun _ => ?_)
        | refine And.intro (by first | exact rfl | exact (tab_app hT) | exact ⟨_, rfl, rfl⟩ | exact ⟨rfl, rfl, rfl⟩ | exact of_decide_eq_true rfl | exact trivial | assumption | omega | (show (_ ≤ _ ∧ _ ≤ _); omega) | (simp; omega) | exact ⟨by first | omega | (simp; omega), _, rfl, rfl⟩) ?_
        | refine Both.mk ?_ ?_
        | refine Exists.intro _ (And.intro rfl ?_)
        | refine fun _ => ?_))
      | exact rfl)
    all_goals first
      | (exfalso; simp_all; done)
      | (exfalso; simp_all; omega)
      | skip
    refine loop_in (ι := Nat) (fun i => mkS 63 [(2, .ints s), (3, .ptr 0 0), (4, .ptr 1 0), (6, .ptr 2 0), (7, B false), (8, I (digE n2 c2 k2 r2)), (9, .own 3), (32, .ints s), (33, I s.length), (34, I i)] [.cells [I n, .ints c, .ints k, I r], .cells [I n2, .ints c2, .ints k2, I r2], .cells [I 0, .val (.slice none 0 0), .val (.slice none 0 0), I 0, I 0, .val (.slice none 0 0), I 0], .iarr (sgnS (digE n2 c2 k2 r2) (s.take i) ++ List.replicate (s.length - i) 0)] Fs) (fun i => i ≤ s.length) (fun i => s.length - i) 0 [0, 1, 2, 3] (Nat.zero_le _) ?_ ?_
    · repeat' (first
        | ((conv => whnf); (first
          | refine brK_dec (fun _ => ?_) (fun _ => ?_)
          | refine brK_ndec (fun _ => ?_) (fun _ => ?_)
          | refine brK_not (fun _ => ?_) (fun _ => ?_)
          | refine brK_in (fun _ => ?_) (fun _ => ?_)
          | refine And.intro (by first | exact rfl | exact ⟨_, rfl, rfl⟩ | exact ⟨rfl, rfl, rfl⟩ | exact of_decide_eq_true rfl | exact trivial | assumption | omega | (show (_ ≤ _ ∧ _ ≤ _); omega) | (simp; omega) | exact ⟨by first | omega | (simp; omega), _, rfl, rfl⟩) ?_
          | refine Both.mk ?_ ?_
          | refine Exists.intro _ (And.intro rfl ?_)
          | refine fun _ => ?_))
        | exact rfl)
    intro i hi
    have hsl : (sgnS (digE n2 c2 k2 r2) (s.take i) ++ List.replicate (s.length - i) 0).length = s.length := by rw [List.length_append, sgnS_len, List.length_replicate, List.length_take]; omega
    repeat' (first
      | ((conv => whnf); (first
        | refine draw_plan (id := 13) [2] [] (.take 0 (.take 2 (.run 1 (.take 3 (.run 4 (.take 5 .done)))))) (by kernel_rfl) (by kernel_rfl) ?_
        | refine brK_dec (fun _ => ?_) (fun _ => ?_)
        | refine brK_ndec (fun _ => ?_) (fun _ => ?_)
        | refine brK_not (fun _ => ?_) (fun _ => ?_)
        | refine brK_in (fun _ => ?_) (fun _ => ?_)
        | refine And.intro (by first | exact rfl | exact (tab_app hT) | exact ⟨_, rfl, rfl⟩ | exact ⟨rfl, rfl, rfl⟩ | exact of_decide_eq_true rfl | exact trivial | assumption | omega | (show (_ ≤ _ ∧ _ ≤ _); omega) | (simp; omega) | exact ⟨by first | omega | (simp; omega), _, rfl, rfl⟩) ?_
        | refine Both.mk ?_ ?_
        | refine Exists.intro _ (And.intro rfl ?_)
        | refine fun _ => ?_))
      | exact rfl)
    · rename_i hil x hx
      have hx : s[i]? = some x := hx
      have e := sgnS_set (d := digE n2 c2 k2 r2) hx
      refine ⟨i + 1, [0, 1, 2, 3], by omega, by omega, ?_⟩
      repeat' (first
        | ((conv => whnf); (first
          | refine brK_dec (fun _ => ?_) (fun _ => ?_)
          | refine brK_ndec (fun _ => ?_) (fun _ => ?_)
          | refine brK_not (fun _ => ?_) (fun _ => ?_)
          | refine brK_in (fun _ => ?_) (fun _ => ?_)
          | refine And.intro (by first | exact rfl | exact e.symm | exact ⟨_, rfl, rfl⟩ | exact ⟨rfl, rfl, rfl⟩ | exact of_decide_eq_true rfl | exact trivial | assumption | omega | (show (_ ≤ _ ∧ _ ≤ _); omega) | (simp; omega) | exact ⟨by first | omega | (simp; omega), _, rfl, rfl⟩) ?_
          | refine Both.mk ?_ ?_
          | refine Exists.intro _ (And.intro rfl ?_)
          | refine fun _ => ?_))
        | exact rfl)
    all_goals rename_i hil hq
    all_goals have e : sgnS (digE n2 c2 k2 r2) (s.take i) ++ List.replicate (s.length - i) 0 = sgnS (digE n2 c2 k2 r2) s := by rw [List.take_of_length_le (by omega), show s.length - i = 0 by omega, List.replicate_zero, List.append_nil]
    all_goals rw [e] at hq
    all_goals first
      | exact h.r (by rw [lmkV, a1, a2, decide_eq_true a3, decide_eq_true a4, hq]; rfl)
      | (rw [e]; exact h.l (by rw [lmkV, a1, a2, decide_eq_true a3, decide_eq_true a4, hq]; rfl))
  · have e1 : lmkV n c k r n2 c2 k2 r2 s = false := by
      rw [lmkV]
      cases a1 : EpV n c k r
      · rfl
      cases a2 : EpV n2 c2 k2 r2
      · rfl
      by_cases a3 : n2 = n + 1
      · rw [decide_eq_true a3, decide_eq_false fun e => hall ⟨a1, a2, a3, e⟩]; rfl
      · rw [decide_eq_false a3]; rfl
    repeat' (first
      | ((conv => whnf); (first
        | refine draw_plan (id := 13) [] [] (.take 0 (.take 2 (.run 1 (.take 3 (.run 4 (.take 5 .done)))))) (by kernel_rfl) (by kernel_rfl) ?_
        | refine brK_dec (fun _ => ?_) (fun _ => ?_)
        | refine brK_ndec (fun _ => ?_) (fun _ => ?_)
        | refine brK_not (fun _ => ?_) (fun _ => ?_)
        | refine brK_in (fun _ => ?_) (fun _ => ?_)
        | refine And.intro (by first | exact rfl | exact (tab_app hT) | exact ⟨_, rfl, rfl⟩ | exact ⟨rfl, rfl, rfl⟩ | exact of_decide_eq_true rfl | exact trivial | assumption | omega | (show (_ ≤ _ ∧ _ ≤ _); omega) | (simp; omega) | exact ⟨by first | omega | (simp; omega), _, rfl, rfl⟩) ?_
        | refine Both.mk ?_ ?_
        | refine Exists.intro _ (And.intro rfl ?_)
        | refine fun _ => ?_))
      | exact rfl)
    all_goals first
      | exact h.r e1
      | skip
    rename_i q1 q2
    simp only [Bool.and_eq_true, decide_eq_true_eq] at q1
    exact absurd ⟨q1.1, q1.2.1, q1.2.2, by omega⟩ hall
end Go.Proofs.YtlhbdhccddadaaaDoor
