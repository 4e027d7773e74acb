/-
Drawn ledgers and transactions.
No conditions.
-/
import Derived.Test.YthplhhilhfpcaaaLgB
import Derived.Test.YthplhhilhfpcaaaDrD
namespace Go.Proofs.Ythplhhilhfpcaaa
open Go Go.Vc
set_option maxHeartbeats 4000000
set_option maxRecDepth 10000
def c_spec_l92Txn : Con := ⟨0, 1, false, fun xs hs _ K => match xs, hs with
  | [.ptr 0 0], [.cells [.bytes b, .val (.int .i64 off)]] =>
    b.length ≤ 2000 ∧ 0 ≤ off ∧ off ≤ 1000000 ∧ ∀ off' f t s e, off ≤ off' → off' ≤ off + 6 → K (.agg [I f, I t, I s, I e]) [rdO b off'] []
  | _, _ => False⟩
theorem k_spec_l92Txn : Keeps' Try.prog 50 c_spec_l92Txn := by
  refine keeps_of_vc mix TyT_ok (cok_cons k_spec_l6Rd_pick Try.func59 rfl rfl cok_nil) Try.func50 rfl rfl rfl ?_
  intro aargs hs Fs K h
  simp only [c_spec_l92Txn] at h
  split at h
  case h_2 => exact h.elim
  rename_i b off
  obtain ⟨hb, h0, h1, h⟩ := h
  repeat' (first
    | ((conv => whnf); (first
      | refine brK_dec (fun _ => ?_) (fun _ => ?_)
      | refine brK_ndec (fun _ => ?_) (fun _ => ?_)
      | refine brK_not (fun _ => ?_) (fun _ => ?_)
      | refine brK_in (fun _ => ?_) (fun _ => ?_)
      | refine And.intro (by first | exact rfl | exact ⟨_, rfl, rfl⟩ | exact ⟨rfl, rfl, rfl⟩ | exact of_decide_eq_true rfl | exact trivial | assumption | omega | (show (_ ≤ _ ∧ _ ≤ _); omega) | (simp; omega) | exact ⟨by first | omega | (simp; omega), _, rfl, rfl⟩) ?_
      | refine Both.mk ?_ ?_
      | refine Exists.intro _ (And.intro rfl ?_)
      | refine fun _ => ?_))
    | exact rfl)
  all_goals exact h _ _ _ _ _ (by omega) (by omega)
def c_spec_l92Ledger : Con := ⟨1, 1, false, fun xs hs _ K => match xs, hs with
  | [.ptr 0 0], [.cells [.bytes b, .val (.int .i64 off)]] =>
    b.length ≤ 2000 ∧ 0 ≤ off ∧ off ≤ 1000000 ∧ ∀ off' l f, off ≤ off' → off' ≤ off + 40 → l.length ≤ 6 → Both (K (.agg [.own 1, I f]) [rdO b off', .iarr l] []) (∀ m, m ≤ l.length → K (.agg [.sub 1 0 m, I f]) [rdO b off', .iarr l] [])
  | _, _ => False⟩
theorem k_spec_l92Ledger : Keeps' Try.prog 49 c_spec_l92Ledger := by
  refine keeps_of_vc mix TyT_ok (cok_cons k_spec_l6Rd_pick Try.func59 rfl rfl cok_nil) Try.func49 rfl rfl rfl ?_
  intro aargs hs Fs K h
  simp only [c_spec_l92Ledger] at h
  split at h
  case h_2 => exact h.elim
  rename_i b off
  obtain ⟨hb, h0, h1, h⟩ := h
  repeat' (first
    | ((conv => whnf); (first
      | refine draw_plan (id := 5) [0] [17] (.take 0 (.take 1 (.take 2 (.take 4 (.take 7 (.take 10 (.run 3 (.run 5 (.take 6 (.run 8 (.two 9 (.run 11 (.take 12 (.run 13 (.run 14 (.run 15 (.take 16 (.run 17 .done))))))) 11 (.run 9 (.take 12 (.run 13 (.run 14 (.run 15 (.take 16 (.run 17 .done)))))))))))))))))) (by kernel_rfl) (by kernel_rfl) ?_
      | refine draw_plan (id := 8) [0] [10] (.take 0 (.take 1 (.take 2 (.take 5 (.two 3 (.two 4 (.run 6 (.take 7 (.run 8 (.take 9 (.run 10 .done))))) 6 (.run 4 (.take 7 (.run 8 (.take 9 (.run 10 .done)))))) 4 (.run 3 (.run 6 (.take 7 (.run 8 (.take 9 (.run 10 .done))))))))))) (by kernel_rfl) (by kernel_rfl) ?_
      | refine draw_plan (id := 10) [0] [6] (.take 0 (.take 1 (.take 2 (.run 3 (.take 4 (.take 5 (.run 6 .done))))))) (by kernel_rfl) (by kernel_rfl) ?_
      | refine brK_dec (fun _ => ?_) (fun _ => ?_)
      | refine brK_ndec (fun _ => ?_) (fun _ => ?_)
      | refine brK_not (fun _ => ?_) (fun _ => ?_)
      | refine brK_in (fun _ => ?_) (fun _ => ?_)
      | refine And.intro (by first | exact rfl | exact ⟨_, rfl, rfl⟩ | exact ⟨rfl, rfl, rfl⟩ | exact of_decide_eq_true rfl | exact trivial | assumption | omega | (show (_ ≤ _ ∧ _ ≤ _); omega) | (simp; omega) | exact ⟨by first | omega | (simp; omega), _, rfl, rfl⟩) ?_
      | refine Both.mk ?_ ?_
      | refine Exists.intro _ (And.intro rfl ?_)
      | refine fun _ => ?_))
    | exact rfl)
  rename_i f hf0 hf1
  refine loop_in (ι := Nat × Int × List Int) (fun g => mkS 61 [(0, .ptr 0 0), (2, .ptr 1 0), (3, .ptr 2 0), (4, I g.1)] [rdO b g.2.1, .cells [.val (.slice none 0 0), I 0], .cells [.own 3, I f], .iarr g.2.2] Fs)
    (fun g => g.1 ≤ 6 ∧ off ≤ g.2.1 ∧ g.2.1 ≤ off + 1 + 4 * g.1 ∧ g.2.2.length = g.1) (fun g => 6 - g.1) (0, off + 1, []) [0, 1, 3, 2] ⟨by simp, by simp; omega, by simp, rfl⟩ ?_ ?_
  · repeat' (first
      | ((conv => whnf); (first
        | refine brK_dec (fun _ => ?_) (fun _ => ?_)
        | refine brK_ndec (fun _ => ?_) (fun _ => ?_)
        | refine brK_not (fun _ => ?_) (fun _ => ?_)
        | refine brK_in (fun _ => ?_) (fun _ => ?_)
        | refine And.intro (by first | exact rfl | exact ⟨_, rfl, rfl⟩ | exact ⟨rfl, rfl, rfl⟩ | exact of_decide_eq_true rfl | exact trivial | assumption | omega | (show (_ ≤ _ ∧ _ ≤ _); omega) | (simp; omega) | exact ⟨by first | omega | (simp; omega), _, rfl, rfl⟩) ?_
        | refine Both.mk ?_ ?_
        | refine Exists.intro _ (And.intro rfl ?_)
        | refine fun _ => ?_))
      | exact rfl)
  rintro ⟨i, off1, l⟩ ⟨hi, ho1, ho2, hl⟩
  dsimp only at hi ho1 ho2 hl ⊢
  repeat' (first
    | ((conv => whnf); (first
      | refine draw_plan (id := 5) [0,3] [17] (.take 0 (.take 1 (.take 2 (.take 4 (.take 7 (.take 10 (.run 3 (.run 5 (.take 6 (.run 8 (.two 9 (.run 11 (.take 12 (.run 13 (.run 14 (.run 15 (.take 16 (.run 17 .done))))))) 11 (.run 9 (.take 12 (.run 13 (.run 14 (.run 15 (.take 16 (.run 17 .done)))))))))))))))))) (by kernel_rfl) (by kernel_rfl) ?_
      | refine draw_plan (id := 8) [0] [10] (.take 0 (.take 1 (.take 2 (.take 5 (.two 3 (.two 4 (.run 6 (.take 7 (.run 8 (.take 9 (.run 10 .done))))) 6 (.run 4 (.take 7 (.run 8 (.take 9 (.run 10 .done)))))) 4 (.run 3 (.run 6 (.take 7 (.run 8 (.take 9 (.run 10 .done))))))))))) (by kernel_rfl) (by kernel_rfl) ?_
      | refine draw_plan (id := 10) [0] [6] (.take 0 (.take 1 (.take 2 (.run 3 (.take 4 (.take 5 (.run 6 .done))))))) (by kernel_rfl) (by kernel_rfl) ?_
      | refine brK_dec (fun _ => ?_) (fun _ => ?_)
      | refine brK_ndec (fun _ => ?_) (fun _ => ?_)
      | refine brK_not (fun _ => ?_) (fun _ => ?_)
      | refine brK_in (fun _ => ?_) (fun _ => ?_)
      | refine And.intro (by first | exact rfl | exact ⟨_, rfl, rfl⟩ | exact ⟨rfl, rfl, rfl⟩ | exact of_decide_eq_true rfl | exact trivial | assumption | omega | (show (_ ≤ _ ∧ _ ≤ _); omega) | (simp; omega) | exact ⟨by first | omega | (simp; omega), _, rfl, rfl⟩) ?_
      | refine Both.mk ?_ ?_
      | refine Exists.intro _ (And.intro rfl ?_)
      | refine fun _ => ?_))
    | exact rfl)
  · rename_i z hz
    refine ⟨(i + 1, off1 + 1 + 1 + 1 + 1, l.take l.length ++ [z]), [0, 1, 2, 3], ⟨?_, ?_, ?_, ?_⟩, ?_, ?_⟩
    · dsimp only; omega
    · dsimp only; omega
    · dsimp only; omega
    · dsimp only; simp; omega
    · dsimp only; omega
    · repeat' (first
        | ((conv => whnf); (first
          | refine brK_dec (fun _ => ?_) (fun _ => ?_)
          | refine brK_ndec (fun _ => ?_) (fun _ => ?_)
          | refine brK_not (fun _ => ?_) (fun _ => ?_)
          | refine brK_in (fun _ => ?_) (fun _ => ?_)
          | refine And.intro (by first | exact rfl | exact ⟨_, rfl, rfl⟩ | exact ⟨rfl, rfl, rfl⟩ | exact of_decide_eq_true rfl | exact trivial | assumption | omega | (show (_ ≤ _ ∧ _ ≤ _); omega) | (simp; omega) | exact ⟨by first | omega | (simp; omega), _, rfl, rfl⟩) ?_
          | refine Both.mk ?_ ?_
          | refine Exists.intro _ (And.intro rfl ?_)
          | refine fun _ => ?_))
        | exact rfl)
  · rename_i z hz
    refine ⟨(i + 1, off1 + 1 + 1 + 1 + 1, l.take l.length ++ [z]), [0, 1, 2, 3], ⟨?_, ?_, ?_, ?_⟩, ?_, ?_⟩
    · dsimp only; omega
    · dsimp only; omega
    · dsimp only; omega
    · dsimp only; simp; omega
    · dsimp only; omega
    · repeat' (first
        | ((conv => whnf); (first
          | refine brK_dec (fun _ => ?_) (fun _ => ?_)
          | refine brK_ndec (fun _ => ?_) (fun _ => ?_)
          | refine brK_not (fun _ => ?_) (fun _ => ?_)
          | refine brK_in (fun _ => ?_) (fun _ => ?_)
          | refine And.intro (by first | exact rfl | exact ⟨_, rfl, rfl⟩ | exact ⟨rfl, rfl, rfl⟩ | exact of_decide_eq_true rfl | exact trivial | assumption | omega | (show (_ ≤ _ ∧ _ ≤ _); omega) | (simp; omega) | exact ⟨by first | omega | (simp; omega), _, rfl, rfl⟩) ?_
          | refine Both.mk ?_ ?_
          | refine Exists.intro _ (And.intro rfl ?_)
          | refine fun _ => ?_))
        | exact rfl)
  · exact (h _ _ _ (by omega) (by omega) (by simp; omega)).l
  · exact (h _ _ _ (by omega) (by omega) (by simp; omega)).l
  · exact (h _ _ _ (by omega) (by omega) (by simp; omega)).l
  · exact (h _ _ _ (by omega) (by omega) (by omega)).r _ (by omega)
  · exact (h _ _ _ (by omega) (by omega) (by omega)).l
  · exact (h _ _ _ (by omega) (by omega) (by omega)).l
def c_spec_DrawLedgerApply : Con := ⟨1, 0, false, fun xs hs _ K => match xs with
  | [.bytes b] => hs = [] ∧ b.length ≤ 1048576 ∧ ∀ l fe f t s e, l.length ≤ 6 → Both (K (.tup [.agg [.own 0, I fe], .agg [I f, I t, I s, I e]]) [.iarr l] []) (∀ m, m ≤ l.length → K (.tup [.agg [.sub 0 0 m, I fe], .agg [I f, I t, I s, I e]]) [.iarr l] [])
  | _ => False⟩
theorem k_spec_DrawLedgerApply : Keeps' Try.prog 17 c_spec_DrawLedgerApply := by
  refine keeps_of_vc mix TyT_ok (cok_cons k_spec_l6Open Try.func48 rfl rfl (cok_cons k_spec_l92Ledger Try.func49 rfl rfl (cok_cons k_spec_l92Txn Try.func50 rfl rfl cok_nil))) Try.func17 rfl rfl rfl ?_
  intro aargs hs Fs K h
  simp only [c_spec_DrawLedgerApply] at h
  split at h
  case h_2 => exact h.elim
  rename_i b
  obtain ⟨rfl, hb, h⟩ := h
  repeat' (first
    | ((conv => whnf); (first
      | refine draw_plan (id := 3) [2] [3, 4] (.take 0 (.take 1 (.run 2 (.run 3 (.run 4 .done))))) (by kernel_rfl) (by kernel_rfl) ?_
      | refine brK_dec (fun _ => ?_) (fun _ => ?_)
      | refine brK_ndec (fun _ => ?_) (fun _ => ?_)
      | refine brK_not (fun _ => ?_) (fun _ => ?_)
      | refine brK_in (fun _ => ?_) (fun _ => ?_)
      | refine And.intro (by first | exact rfl | exact ⟨_, rfl, rfl⟩ | exact ⟨rfl, rfl, rfl⟩ | exact of_decide_eq_true rfl | exact trivial | assumption | omega | (show (_ ≤ _ ∧ _ ≤ _); omega) | (simp; omega) | exact ⟨by first | omega | (simp; omega), _, rfl, rfl⟩) ?_
      | refine Both.mk ?_ ?_
      | refine Exists.intro _ (And.intro rfl ?_)
      | refine fun _ => ?_))
    | exact rfl)
  · exact (h _ _ _ _ _ _ (by assumption)).l
  · exact (h _ _ _ _ _ _ (by assumption)).r _ (by assumption)
end Go.Proofs.Ythplhhilhfpcaaa
