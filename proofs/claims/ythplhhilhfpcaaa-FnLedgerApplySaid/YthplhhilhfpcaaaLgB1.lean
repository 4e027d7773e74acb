/-
Ledgers: the program's book.
No conditions.
-/
import Derived.Test.YthplhhilhfpcaaaLgA
namespace Go.Proofs.Ythplhhilhfpcaaa
open Go Go.Vc
set_option maxHeartbeats 4000000
set_option maxRecDepth 10000
theorem len6 {l : List Int} (h : l.length = 6) : ∃ a b c d e f, l = [a, b, c, d, e, f] := by
  match l, h with
  | [a, b, c, d, e, f], _ => exact ⟨a, b, c, d, e, f, rfl⟩
def c_impl_balances_covers : Con := ⟨0, 1, false, fun xs hs _ K => match xs, hs with
  | [.ptr 0 0, .val (.int .i64 a), .val (.int .i64 s)], [.cells [.val (.int .i64 b0), .val (.int .i64 b1), .val (.int .i64 b2), .val (.int .i64 b3), .val (.int .i64 b4), .val (.int .i64 b5), .val (.int .i64 g)]] =>
    0 ≤ a ∧ a ≤ 5 ∧ K (B (decide (s ≤ getL [b0, b1, b2, b3, b4, b5] a))) [.cells [I b0, I b1, I b2, I b3, I b4, I b5, I g]] []
  | _, _ => False⟩
theorem k_impl_balances_covers : Keeps' Try.prog 80 c_impl_balances_covers := by
  refine keeps_of_vc mix TyT_ok cok_nil Try.func80 rfl rfl rfl ?_
  intro aargs hs Fs K h
  simp only [c_impl_balances_covers] at h
  split at h
  case h_2 => exact h.elim
  rename_i a s b0 b1 b2 b3 b4 b5 g
  obtain ⟨h0, h1, h⟩ := h
  obtain rfl | rfl | rfl | rfl | rfl | rfl : a = 0 ∨ a = 1 ∨ a = 2 ∨ a = 3 ∨ a = 4 ∨ a = 5 := by omega
  all_goals repeat' (first
    | ((conv => whnf); (first
      | refine brK_dec (fun _ => ?_) (fun _ => ?_)
      | refine brK_ndec (fun _ => ?_) (fun _ => ?_)
      | refine brK_not (fun _ => ?_) (fun _ => ?_)
      | refine brK_in (fun _ => ?_) (fun _ => ?_)
      | refine And.intro (by first | exact rfl | exact ⟨_, rfl, rfl⟩ | exact ⟨rfl, rfl, rfl⟩ | exact of_decide_eq_true rfl | exact trivial | assumption | omega | (show (_ ≤ _ ∧ _ ≤ _); omega) | (simp; omega) | exact ⟨by first | omega | (simp; omega), _, rfl, rfl⟩) ?_
      | refine Both.mk ?_ ?_
      | refine Exists.intro _ (And.intro rfl ?_)
      | refine fun _ => ?_))
    | exact rfl)
  all_goals exact h
def c_impl_balances_accepts : Con := ⟨0, 1, false, fun xs hs _ K => match xs, hs with
  | [.ptr 0 0, .val (.int .i64 a), .val (.int .i64 s)], [.cells [.val (.int .i64 b0), .val (.int .i64 b1), .val (.int .i64 b2), .val (.int .i64 b3), .val (.int .i64 b4), .val (.int .i64 b5), .val (.int .i64 g)]] =>
    0 ≤ a ∧ a ≤ 5 ∧ 0 ≤ s ∧ s ≤ 99 ∧ (∀ x ∈ [b0, b1, b2, b3, b4, b5], 0 ≤ x ∧ x ≤ 999) ∧ K (B (decide (getL [b0, b1, b2, b3, b4, b5] a + s ≤ 999))) [.cells [I b0, I b1, I b2, I b3, I b4, I b5, I g]] []
  | _, _ => False⟩
theorem k_impl_balances_accepts : Keeps' Try.prog 81 c_impl_balances_accepts := by
  refine keeps_of_vc mix TyT_ok cok_nil Try.func81 rfl rfl rfl ?_
  intro aargs hs Fs K h
  simp only [c_impl_balances_accepts] at h
  split at h
  case h_2 => exact h.elim
  rename_i a s b0 b1 b2 b3 b4 b5 g
  obtain ⟨h0, h1, h2, h3, hx, h⟩ := h
  simp only [List.mem_cons, List.not_mem_nil, or_false, forall_eq_or_imp, forall_eq] at hx
  obtain rfl | rfl | rfl | rfl | rfl | rfl : a = 0 ∨ a = 1 ∨ a = 2 ∨ a = 3 ∨ a = 4 ∨ a = 5 := by omega
  all_goals repeat' (first
    | ((conv => whnf); (first
      | refine brK_dec (fun _ => ?_) (fun _ => ?_)
      | refine brK_ndec (fun _ => ?_) (fun _ => ?_)
      | refine brK_not (fun _ => ?_) (fun _ => ?_)
      | refine brK_in (fun _ => ?_) (fun _ => ?_)
      | refine And.intro (by first | exact rfl | exact ⟨_, rfl, rfl⟩ | exact ⟨rfl, rfl, rfl⟩ | exact of_decide_eq_true rfl | exact trivial | assumption | omega | (show (_ ≤ _ ∧ _ ≤ _); omega) | (simp; omega) | exact ⟨by first | omega | (simp; omega), _, rfl, rfl⟩) ?_
      | refine Both.mk ?_ ?_
      | refine Exists.intro _ (And.intro rfl ?_)
      | refine fun _ => ?_))
    | exact rfl)
  all_goals exact h
def c_impl_openBook : Con := ⟨1, 0, false, fun xs hs _ K => match xs with
  | [.agg [.ints [b0, b1, b2, b3, b4, b5], .val (.int .i64 f)]] => hs = [] ∧ K (.ptr 0 0) [.cells [I b0, I b1, I b2, I b3, I b4, I b5, I f]] []
  | _ => False⟩
theorem k_impl_openBook : Keeps' Try.prog 52 c_impl_openBook := by
  refine keeps_of_vc mix TyT_ok cok_nil Try.func52 rfl rfl rfl ?_
  intro aargs hs Fs K h
  simp only [c_impl_openBook] at h
  split at h
  case h_2 => exact h.elim
  rename_i b0 b1 b2 b3 b4 b5 f
  obtain ⟨rfl, h⟩ := h
  repeat' (first
    | ((conv => whnf); (first
      | refine draw_plan (id := 2) [] [6] (.take 0 (.take 1 (.take 2 (.take 3 (.take 4 (.take 5 (.run 6 .done))))))) (by kernel_rfl) (by kernel_rfl) ?_
      | refine brK_dec (fun _ => ?_) (fun _ => ?_)
      | refine brK_ndec (fun _ => ?_) (fun _ => ?_)
      | refine brK_not (fun _ => ?_) (fun _ => ?_)
      | refine brK_in (fun _ => ?_) (fun _ => ?_)
      | refine And.intro (by first | exact rfl | exact ⟨_, rfl, rfl⟩ | exact ⟨rfl, rfl, rfl⟩ | exact of_decide_eq_true rfl | exact trivial | assumption | omega | (show (_ ≤ _ ∧ _ ≤ _); omega) | (simp; omega) | exact ⟨by first | omega | (simp; omega), _, rfl, rfl⟩) ?_
      | refine Both.mk ?_ ?_
      | refine Exists.intro _ (And.intro rfl ?_)
      | refine fun _ => ?_))
    | exact rfl)
  exact h
def c_impl_book_ledger : Con := ⟨1, 1, false, fun xs hs _ K => match xs, hs with
  | [.ptr 0 0], [.cells [.val (.int .i64 b0), .val (.int .i64 b1), .val (.int .i64 b2), .val (.int .i64 b3), .val (.int .i64 b4), .val (.int .i64 b5), .val (.int .i64 f)]] =>
    K (.agg [.own 1, I f]) [.cells [I b0, I b1, I b2, I b3, I b4, I b5, I f], .iarr [b0, b1, b2, b3, b4, b5]] []
  | _, _ => False⟩
theorem k_impl_book_ledger : Keeps' Try.prog 54 c_impl_book_ledger := by
  refine keeps_of_vc mix TyT_ok cok_nil Try.func54 rfl rfl rfl ?_
  intro aargs hs Fs K h
  simp only [c_impl_book_ledger] at h
  split at h
  case h_2 => exact h.elim
  rename_i b0 b1 b2 b3 b4 b5 f
  repeat' (first
    | ((conv => whnf); (first
      | refine draw_plan (id := 1) [] [11] (.take 1 (.take 2 (.take 3 (.take 4 (.take 6 (.take 7 (.take 8 (.take 9 (.run 0 (.run 5 (.take 10 (.run 11 .done)))))))))))) (by kernel_rfl) (by kernel_rfl) ?_
      | refine brK_dec (fun _ => ?_) (fun _ => ?_)
      | refine brK_ndec (fun _ => ?_) (fun _ => ?_)
      | refine brK_not (fun _ => ?_) (fun _ => ?_)
      | refine brK_in (fun _ => ?_) (fun _ => ?_)
      | refine And.intro (by first | exact rfl | exact ⟨_, rfl, rfl⟩ | exact ⟨rfl, rfl, rfl⟩ | exact of_decide_eq_true rfl | exact trivial | assumption | omega | (show (_ ≤ _ ∧ _ ≤ _); omega) | (simp; omega) | exact ⟨by first | omega | (simp; omega), _, rfl, rfl⟩) ?_
      | refine Both.mk ?_ ?_
      | refine Exists.intro _ (And.intro rfl ?_)
      | refine fun _ => ?_))
    | exact rfl)
  all_goals exact h
end Go.Proofs.Ythplhhilhfpcaaa
