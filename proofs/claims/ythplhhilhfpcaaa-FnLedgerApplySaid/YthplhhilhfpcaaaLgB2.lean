/-
Ledgers: the program's book.
No conditions.
-/
import Derived.Test.YthplhhilhfpcaaaLgB1
namespace Go.Proofs.Ythplhhilhfpcaaa
open Go Go.Vc
set_option maxHeartbeats 4000000
set_option maxRecDepth 10000
def c_impl_book_apply : Con := ⟨0, 1, false, fun xs hs _ K => match xs, hs with
  | [.ptr 0 0, .agg [.val (.int .i64 f), .val (.int .i64 t), .val (.int .i64 s), .val (.int .i64 e)]], [.cells [.val (.int .i64 b0), .val (.int .i64 b1), .val (.int .i64 b2), .val (.int .i64 b3), .val (.int .i64 b4), .val (.int .i64 b5), .val (.int .i64 g)]] =>
    (∀ x ∈ [b0, b1, b2, b3, b4, b5], 0 ≤ x ∧ x ≤ 999) ∧ 0 ≤ g ∧ g ≤ 5994 ∧
      ∀ c0 c1 c2 c3 c4 c5 g' d, applyP [b0, b1, b2, b3, b4, b5] g f t s e = ([c0, c1, c2, c3, c4, c5], g', d) → K (B d) [.cells [I c0, I c1, I c2, I c3, I c4, I c5, I g']] []
  | _, _ => False⟩
theorem k_impl_book_apply : Keeps' Try.prog 53 c_impl_book_apply := by
  refine keeps_of_vc mix TyT_ok (cok_cons k_impl_TxnValid Try.func21 rfl rfl (cok_cons k_impl_balances_covers Try.func80 rfl rfl (cok_cons k_impl_balances_accepts Try.func81 rfl rfl cok_nil))) Try.func53 rfl rfl rfl ?_
  intro aargs hs Fs K h
  simp only [c_impl_book_apply] at h
  split at h
  case h_2 => exact h.elim
  rename_i f t s e b0 b1 b2 b3 b4 b5 g
  obtain ⟨hx, h0, h1, h⟩ := h
  have hx' := hx
  simp only [List.mem_cons, List.not_mem_nil, or_false, forall_eq_or_imp, forall_eq] at hx'
  cases htx : txV f t s e
  · repeat' (first
      | ((conv => whnf); (first
        | refine draw_plan (id := 1) [0] [] (.take 0 (.run 1 (.take 2 (.take 3 (.take 4 (.take 5 (.take 6 (.take 7 (.take 8 (.take 9 (.take 10 (.take 11 (.take 12 (.take 13 (.run 14 (.take 15 (.take 16 (.take 17 (.take 18 (.take 19 (.take 20 (.take 21 (.take 22 (.take 23 (.take 24 (.run 25 (.take 26 (.take 27 .done)))))))))))))))))))))))))))) (by kernel_rfl) (by kernel_rfl) ?_
        | refine draw_plan (id := 3) [] [16] (.take 0 (.take 1 (.take 2 (.take 3 (.take 4 (.take 5 (.take 6 (.take 7 (.take 8 (.take 9 (.take 10 (.take 11 (.take 12 (.take 13 (.take 14 (.take 15 (.run 16 .done))))))))))))))))) (by kernel_rfl) (by kernel_rfl) ?_
        | refine draw_plan (id := 4) [] [13] (.take 0 (.take 1 (.take 2 (.take 3 (.take 4 (.take 5 (.take 6 (.take 7 (.take 8 (.take 9 (.take 10 (.take 11 (.take 12 (.run 13 .done)))))))))))))) (by kernel_rfl) (by kernel_rfl) ?_
        | refine draw_plan (id := 5) [] [9] (.take 0 (.take 1 (.take 2 (.take 3 (.take 4 (.take 5 (.take 6 (.take 7 (.take 8 (.run 9 .done)))))))))) (by kernel_rfl) (by kernel_rfl) ?_
        | refine brK_dec (fun _ => ?_) (fun _ => ?_)
        | refine brK_ndec (fun _ => ?_) (fun _ => ?_)
        | refine brK_not (fun _ => ?_) (fun _ => ?_)
        | refine brK_in (fun _ => ?_) (fun _ => ?_)
        | refine And.intro (by first | exact rfl | exact ⟨_, rfl, rfl⟩ | exact ⟨rfl, rfl, rfl⟩ | exact of_decide_eq_true rfl | exact trivial | assumption | omega | (show (_ ≤ _ ∧ _ ≤ _); omega) | (simp; omega) | exact ⟨by first | omega | (simp; omega), _, rfl, rfl⟩) ?_
        | refine Both.mk ?_ ?_
        | refine Exists.intro _ (And.intro rfl ?_)
        | refine fun _ => ?_))
      | exact rfl)
    · exact h _ _ _ _ _ _ _ _ (by simp [applyP, htx])
    all_goals (exfalso; simp_all)
  · obtain ⟨t1, t2, t3, t4, t5, t6, t7, t8, t9⟩ := txV_out htx
    repeat' (first
      | ((conv => whnf); (first
        | refine draw_plan (id := 1) [0] [] (.take 0 (.run 1 (.take 2 (.take 3 (.take 4 (.take 5 (.take 6 (.take 7 (.take 8 (.take 9 (.take 10 (.take 11 (.take 12 (.take 13 (.run 14 (.take 15 (.take 16 (.take 17 (.take 18 (.take 19 (.take 20 (.take 21 (.take 22 (.take 23 (.take 24 (.run 25 (.take 26 (.take 27 .done)))))))))))))))))))))))))))) (by kernel_rfl) (by kernel_rfl) ?_
        | refine brK_dec (fun _ => ?_) (fun _ => ?_)
        | refine brK_ndec (fun _ => ?_) (fun _ => ?_)
        | refine brK_not (fun _ => ?_) (fun _ => ?_)
        | refine brK_in (fun _ => ?_) (fun _ => ?_)
        | refine And.intro (by first | exact rfl | exact ⟨_, rfl, rfl⟩ | exact ⟨rfl, rfl, rfl⟩ | exact of_decide_eq_true rfl | exact trivial | assumption | omega | (show (_ ≤ _ ∧ _ ≤ _); omega) | (simp; omega) | exact ⟨by first | omega | (simp; omega), _, rfl, rfl⟩) ?_
        | refine Both.mk ?_ ?_
        | refine Exists.intro _ (And.intro rfl ?_)
        | refine fun _ => ?_))
      | exact rfl)
    · exfalso; simp_all; done
    · rename_i h2 h3
      exact h _ _ _ _ _ _ _ _ (by simp [applyP, h3])
    · rename_i h2 h3 h4
      exact h _ _ _ _ _ _ _ _ (by simp [applyP, h4])
    rename_i h2 h3 h4
    have ha : applyP [b0, b1, b2, b3, b4, b5] g f t s e = (([b0, b1, b2, b3, b4, b5].set f.toNat (getL [b0, b1, b2, b3, b4, b5] f - (s + e))).set t.toNat (getL [b0, b1, b2, b3, b4, b5] t + s), g + e, true) := by
      simp [applyP, h2, h3, h4]
    rw [ha] at h
    clear ha h2 h3 h4 htx hx
    obtain rfl | rfl | rfl | rfl | rfl | rfl : f = 0 ∨ f = 1 ∨ f = 2 ∨ f = 3 ∨ f = 4 ∨ f = 5 := by omega
    all_goals repeat' (first
      | ((conv => whnf); (first
        | refine draw_plan (id := 3) [] [16] (.take 0 (.take 1 (.take 2 (.take 3 (.take 4 (.take 5 (.take 6 (.take 7 (.take 8 (.take 9 (.take 10 (.take 11 (.take 12 (.take 13 (.take 14 (.take 15 (.run 16 .done))))))))))))))))) (by kernel_rfl) (by kernel_rfl) ?_
        | refine brK_dec (fun _ => ?_) (fun _ => ?_)
        | refine brK_ndec (fun _ => ?_) (fun _ => ?_)
        | refine brK_not (fun _ => ?_) (fun _ => ?_)
        | refine brK_in (fun _ => ?_) (fun _ => ?_)
        | refine And.intro (by first | exact rfl | exact ⟨_, rfl, rfl⟩ | exact ⟨rfl, rfl, rfl⟩ | exact of_decide_eq_true rfl | exact trivial | assumption | omega | (show (_ ≤ _ ∧ _ ≤ _); omega) | (simp; omega) | exact ⟨by first | omega | (simp; omega), _, rfl, rfl⟩) ?_
        | refine Both.mk ?_ ?_
        | refine Exists.intro _ (And.intro rfl ?_)
        | refine fun _ => ?_))
      | exact rfl)
    all_goals (obtain rfl | rfl | rfl | rfl | rfl | rfl : t = 0 ∨ t = 1 ∨ t = 2 ∨ t = 3 ∨ t = 4 ∨ t = 5 := by omega)
    all_goals first
      | exact absurd rfl t5
      | skip
    all_goals repeat' (first
      | ((conv => whnf); (first
        | refine draw_plan (id := 4) [] [13] (.take 0 (.take 1 (.take 2 (.take 3 (.take 4 (.take 5 (.take 6 (.take 7 (.take 8 (.take 9 (.take 10 (.take 11 (.take 12 (.run 13 .done)))))))))))))) (by kernel_rfl) (by kernel_rfl) ?_
        | refine draw_plan (id := 5) [] [9] (.take 0 (.take 1 (.take 2 (.take 3 (.take 4 (.take 5 (.take 6 (.take 7 (.take 8 (.run 9 .done)))))))))) (by kernel_rfl) (by kernel_rfl) ?_
        | refine brK_dec (fun _ => ?_) (fun _ => ?_)
        | refine brK_ndec (fun _ => ?_) (fun _ => ?_)
        | refine brK_not (fun _ => ?_) (fun _ => ?_)
        | refine brK_in (fun _ => ?_) (fun _ => ?_)
        | refine And.intro (by first | exact rfl | exact ⟨_, rfl, rfl⟩ | exact ⟨rfl, rfl, rfl⟩ | exact of_decide_eq_true rfl | exact trivial | assumption | omega | (show (_ ≤ _ ∧ _ ≤ _); omega) | (simp; omega) | exact ⟨by first | omega | (simp; omega), _, rfl, rfl⟩) ?_
        | refine Both.mk ?_ ?_
        | refine Exists.intro _ (And.intro rfl ?_)
        | refine fun _ => ?_))
      | exact rfl)
    all_goals exact h _ _ _ _ _ _ _ _ rfl
end Go.Proofs.Ythplhhilhfpcaaa
