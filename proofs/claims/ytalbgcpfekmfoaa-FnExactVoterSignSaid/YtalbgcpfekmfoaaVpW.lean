/-
The law on a vote cast, by the program and by the reference: its contract.
No conditions.
-/
import Derived.Test.YtalbgcpfekmfoaaVpV
import Derived.Test.YtalbgcpfekmfoaaVpY
namespace Go.Proofs.Ytalbgcpfekmfoaa
open Go Go.Vc
set_option maxHeartbeats 4000000
set_option maxRecDepth 10000
theorem free_rows {X : List Nat} (l : List VtD) : roFreeX X (.arr 3 (l.map VtD.row)) := by
  cases X with
  | nil => trivial
  | cons x X => simp [roFreeX, roFreeO, VtD.row, roFreeC]
def c_laws_FnExactVoterSign : Con := ⟨0, 0, false, fun xs hs _ K => match xs with
  | [.agg [.val (.int .i64 _), .sl 3 rows], .agg [.val (.int .i64 _), .val (.int .i64 _), .val (.int .i64 _)]] => hs = [] ∧ ∃ l : List VtD, rows = l.map VtD.row ∧ l.length ≤ 9223372036854775807 ∧ K (B true) [] []
  | _ => False⟩
theorem k_laws_FnExactVoterSign : Keeps' Try.prog 3 c_laws_FnExactVoterSign := by
  refine keeps_of_cuts mix TyT_ok (cok_cons k_laws_szVoter Try.func5 rfl rfl (cok_cons k_laws_toVoter Try.func7 rfl rfl (cok_cons k_laws_toVote Try.func8 rfl rfl (cok_cons k_spec_VoterSign Try.func6 rfl rfl (cok_cons k_impl_VoterSign Try.func9 rfl rfl (cok_cons (keeps_nilR k_laws_eqVoter) Try.func10 rfl rfl (cok_cons (keeps_alt k_laws_markVoter k_laws_markVoter_n (by decide) rfl) Try.func11 rfl rfl (cok_cons (keeps_nilR k_laws_heldVoter) Try.func12 rfl rfl cok_nil)))))))) Try.func3 rfl rfl rfl [7, 13, 24] ?_
  intro aargs hs Fs K h
  simp only [c_laws_FnExactVoterSign] at h
  split at h
  case h_2 => exact h.elim
  rename_i f rows r a d
  obtain ⟨rfl, l, rfl, hl, h⟩ := h
  have hlen : (l.map VtD.row).length = l.length := by simp
  obtain ⟨S, bb, hS⟩ : ∃ S bb, signS f l ⟨r, a, d⟩ = (S, bb) := ⟨_, _, rfl⟩
  rcases Bool.eq_false_or_eq_true (vrV f l && vtV ⟨r, a, d⟩) with hq | hq
  · have hsl := sign_len (v := ⟨r, a, d⟩) (show vrV f l = true by rw [Bool.and_eq_true] at hq; exact hq.1)
    rw [hS] at hsl
    have hsl : S.length ≤ 41 := hsl
    refine cuts_step (by rfl) (fun _ : Unit => mkS 104 [(2, .ptr 0 0), (3, .ptr 1 0), (4, B false), (6, .ptr 2 0), (7, B bb), (8, .ptr 4 0)] [.cells [I f, .sl 3 (l.map VtD.row)], .cells [I r, I a, I d], .cells [I f, .own 3], .arr 3 (S.map VtD.row), .cells [I f, .own 5], .arr 3 (l.map VtD.row)] Fs) (fun _ => l.length ≤ 1048576) ?_ ?_
    · repeat' (first
        | ((conv => whnf); (first
          | refine draw_plan (id := 5) [] [] (.take 0 (.take 2 (.two 1 (.two 3 (.two 4 (.take 5 (.take 6 (.take 7 (.run 8 (.run 9 (.take 10 .done)))))) 8 (.run 4 (.take 5 (.take 6 (.take 7 (.run 9 (.take 10 .done))))))) 8 (.run 3 (.run 4 (.take 5 (.take 6 (.take 7 (.run 9 (.take 10 .done)))))))) 8 (.run 1 (.run 3 (.run 4 (.take 5 (.take 6 (.take 7 (.run 9 (.take 10 .done))))))))))) (by kernel_rfl) (by kernel_rfl) ?_
          | refine draw_plan (id := 7) [] [] (.take 0 (.take 1 (.two 2 (.two 3 (.take 4 (.take 5 (.take 6 (.run 7 (.run 8 (.take 9 .done)))))) 7 (.run 3 (.take 4 (.take 5 (.take 6 (.run 8 (.take 9 .done))))))) 7 (.run 2 (.run 3 (.take 4 (.take 5 (.take 6 (.run 8 (.take 9 .done)))))))))) (by kernel_rfl) (by kernel_rfl) ?_
          | refine draw_plan (id := 10) [] [] (.take 0 (.take 1 (.run 2 (.run 3 (.take 4 .done))))) (by kernel_rfl) (by kernel_rfl) ?_
          | refine draw_plan (id := 24) [] [] (.take 0 (.take 2 (.two 1 (.two 3 (.two 4 (.take 5 (.take 6 (.take 7 (.run 8 (.run 9 (.take 10 .done)))))) 8 (.run 4 (.take 5 (.take 6 (.take 7 (.run 9 (.take 10 .done))))))) 8 (.run 3 (.run 4 (.take 5 (.take 6 (.take 7 (.run 9 (.take 10 .done)))))))) 8 (.run 1 (.run 3 (.run 4 (.take 5 (.take 6 (.take 7 (.run 9 (.take 10 .done))))))))))) (by kernel_rfl) (by kernel_rfl) ?_
          | refine brK_dec (fun _ => ?_) (fun _ => ?_)
          | refine brK_ndec (fun _ => ?_) (fun _ => ?_)
          | refine brK_not (fun _ => ?_) (fun _ => ?_)
          | refine brK_in (fun _ => ?_) (fun _ => ?_)
          | refine And.intro (by first | exact rfl | exact ⟨_, rfl, rfl⟩ | exact ⟨rfl, rfl, rfl⟩ | exact of_decide_eq_true rfl | exact trivial | assumption | omega | (show (_ ≤ _ ∧ _ ≤ _); omega) | (simp; omega) | exact ⟨by first | omega | (simp; omega), _, rfl, rfl⟩) ?_
          | refine Quo.l (And.intro (by first | exact rfl | assumption | omega | (simp; omega)) ?_)
          | refine Quo.r (And.intro (by omega) ?_)
          | refine Both.mk ?_ ?_
          | refine Exists.intro _ (And.intro rfl ?_)
          | refine optT_use (by assumption) ?_
          | refine trow_use (by assumption) ?_
          | refine trow_in (fun _ _ => ?_)
          | refine trow_nil ?_
          | refine fun _ => ?_))
        | exact rfl)
      · exact h
      all_goals
        rename_i h0
        have g1 := szT_le h0
        rw [hlen] at g1
      repeat' (first
        | ((conv => whnf); (first
          | refine draw_plan (id := 5) [] [] (.take 0 (.take 2 (.two 1 (.two 3 (.two 4 (.take 5 (.take 6 (.take 7 (.run 8 (.run 9 (.take 10 .done)))))) 8 (.run 4 (.take 5 (.take 6 (.take 7 (.run 9 (.take 10 .done))))))) 8 (.run 3 (.run 4 (.take 5 (.take 6 (.take 7 (.run 9 (.take 10 .done)))))))) 8 (.run 1 (.run 3 (.run 4 (.take 5 (.take 6 (.take 7 (.run 9 (.take 10 .done))))))))))) (by kernel_rfl) (by kernel_rfl) ?_
          | refine draw_plan (id := 7) [] [] (.take 0 (.take 1 (.two 2 (.two 3 (.take 4 (.take 5 (.take 6 (.run 7 (.run 8 (.take 9 .done)))))) 7 (.run 3 (.take 4 (.take 5 (.take 6 (.run 8 (.take 9 .done))))))) 7 (.run 2 (.run 3 (.take 4 (.take 5 (.take 6 (.run 8 (.take 9 .done)))))))))) (by kernel_rfl) (by kernel_rfl) ?_
          | refine draw_plan (id := 10) [] [] (.take 0 (.take 1 (.run 2 (.run 3 (.take 4 .done))))) (by kernel_rfl) (by kernel_rfl) ?_
          | refine draw_plan (id := 24) [] [] (.take 0 (.take 2 (.two 1 (.two 3 (.two 4 (.take 5 (.take 6 (.take 7 (.run 8 (.run 9 (.take 10 .done)))))) 8 (.run 4 (.take 5 (.take 6 (.take 7 (.run 9 (.take 10 .done))))))) 8 (.run 3 (.run 4 (.take 5 (.take 6 (.take 7 (.run 9 (.take 10 .done)))))))) 8 (.run 1 (.run 3 (.run 4 (.take 5 (.take 6 (.take 7 (.run 9 (.take 10 .done))))))))))) (by kernel_rfl) (by kernel_rfl) ?_
          | refine brK_dec (fun _ => ?_) (fun _ => ?_)
          | refine brK_ndec (fun _ => ?_) (fun _ => ?_)
          | refine brK_not (fun _ => ?_) (fun _ => ?_)
          | refine brK_in (fun _ => ?_) (fun _ => ?_)
          | refine And.intro (by first | exact rfl | exact ⟨_, rfl, rfl⟩ | exact ⟨rfl, rfl, rfl⟩ | exact of_decide_eq_true rfl | exact trivial | assumption | omega | (show (_ ≤ _ ∧ _ ≤ _); omega) | (simp; omega) | exact ⟨by first | omega | (simp; omega), _, rfl, rfl⟩) ?_
          | refine Quo.l (And.intro (by first | exact rfl | assumption | omega | (simp; omega)) ?_)
          | refine Quo.r (And.intro (by omega) ?_)
          | refine Both.mk (fun e => absurd (hq.symm.trans e) (by decide)) ?_
          | refine Both.mk ?_ (fun e => absurd (hq.symm.trans e) (by decide))
          | refine Both.mk ?_ ?_
          | refine Exists.intro _ (And.intro rfl ?_)
          | refine optT_use (by assumption) ?_
          | refine trow_use (by assumption) ?_
          | refine trow_in (fun _ _ => ?_)
          | refine trow_nil ?_
          | refine fun _ => ?_))
        | exact rfl)
      all_goals rw [hS]
      · refine ⟨(), [0, 1, 4, 3, 6, 5], by omega, ?_⟩
        repeat' (first
          | ((conv => whnf); (first
            | refine brK_dec (fun _ => ?_) (fun _ => ?_)
            | refine brK_ndec (fun _ => ?_) (fun _ => ?_)
            | refine brK_not (fun _ => ?_) (fun _ => ?_)
            | refine brK_in (fun _ => ?_) (fun _ => ?_)
            | refine And.intro (by first | exact rfl | exact ⟨_, rfl, rfl⟩ | exact ⟨rfl, rfl, rfl⟩ | exact of_decide_eq_true rfl | exact trivial | assumption | omega | (show (_ ≤ _ ∧ _ ≤ _); omega) | (simp; omega) | exact ⟨by first | omega | (simp; omega), _, rfl, rfl⟩) ?_
            | refine Quo.l (And.intro (by first | exact rfl | assumption | omega | (simp; omega)) ?_)
            | refine Quo.r (And.intro (by omega) ?_)
            | refine Both.mk ?_ ?_
            | refine Exists.intro _ (And.intro rfl ?_)
            | refine optT_use (by assumption) ?_
            | refine trow_use (by assumption) ?_
            | refine trow_in (fun _ _ => ?_)
            | refine trow_nil ?_
            | refine fun _ => ?_))
          | exact rfl)
      · refine ⟨(), [0, 1, 3, 4, 6, 5], by omega, ?_⟩
        repeat' (first
          | ((conv => whnf); (first
            | refine brK_dec (fun _ => ?_) (fun _ => ?_)
            | refine brK_ndec (fun _ => ?_) (fun _ => ?_)
            | refine brK_not (fun _ => ?_) (fun _ => ?_)
            | refine brK_in (fun _ => ?_) (fun _ => ?_)
            | refine And.intro (by first | exact rfl | exact ⟨_, rfl, rfl⟩ | exact ⟨rfl, rfl, rfl⟩ | exact of_decide_eq_true rfl | exact trivial | assumption | omega | (show (_ ≤ _ ∧ _ ≤ _); omega) | (simp; omega) | exact ⟨by first | omega | (simp; omega), _, rfl, rfl⟩) ?_
            | refine Quo.l (And.intro (by first | exact rfl | assumption | omega | (simp; omega)) ?_)
            | refine Quo.r (And.intro (by omega) ?_)
            | refine Both.mk ?_ ?_
            | refine Exists.intro _ (And.intro rfl ?_)
            | refine optT_use (by assumption) ?_
            | refine trow_use (by assumption) ?_
            | refine trow_in (fun _ _ => ?_)
            | refine trow_nil ?_
            | refine fun _ => ?_))
          | exact rfl)
      · refine ⟨(), [0, 1, 3, 4, 6, 5], by omega, ?_⟩
        repeat' (first
          | ((conv => whnf); (first
            | refine brK_dec (fun _ => ?_) (fun _ => ?_)
            | refine brK_ndec (fun _ => ?_) (fun _ => ?_)
            | refine brK_not (fun _ => ?_) (fun _ => ?_)
            | refine brK_in (fun _ => ?_) (fun _ => ?_)
            | refine And.intro (by first | exact rfl | exact ⟨_, rfl, rfl⟩ | exact ⟨rfl, rfl, rfl⟩ | exact of_decide_eq_true rfl | exact trivial | assumption | omega | (show (_ ≤ _ ∧ _ ≤ _); omega) | (simp; omega) | exact ⟨by first | omega | (simp; omega), _, rfl, rfl⟩) ?_
            | refine Quo.l (And.intro (by first | exact rfl | assumption | omega | (simp; omega)) ?_)
            | refine Quo.r (And.intro (by omega) ?_)
            | refine Both.mk ?_ ?_
            | refine Exists.intro _ (And.intro rfl ?_)
            | refine optT_use (by assumption) ?_
            | refine trow_use (by assumption) ?_
            | refine trow_in (fun _ _ => ?_)
            | refine trow_nil ?_
            | refine fun _ => ?_))
          | exact rfl)
      · refine ⟨(), [0, 1, 2, 4, 6, 5], by omega, ?_⟩
        repeat' (first
          | ((conv => whnf); (first
            | refine brK_dec (fun _ => ?_) (fun _ => ?_)
            | refine brK_ndec (fun _ => ?_) (fun _ => ?_)
            | refine brK_not (fun _ => ?_) (fun _ => ?_)
            | refine brK_in (fun _ => ?_) (fun _ => ?_)
            | refine And.intro (by first | exact rfl | exact ⟨_, rfl, rfl⟩ | exact ⟨rfl, rfl, rfl⟩ | exact of_decide_eq_true rfl | exact trivial | assumption | omega | (show (_ ≤ _ ∧ _ ≤ _); omega) | (simp; omega) | exact ⟨by first | omega | (simp; omega), _, rfl, rfl⟩) ?_
            | refine Quo.l (And.intro (by first | exact rfl | assumption | omega | (simp; omega)) ?_)
            | refine Quo.r (And.intro (by omega) ?_)
            | refine Both.mk ?_ ?_
            | refine Exists.intro _ (And.intro rfl ?_)
            | refine optT_use (by assumption) ?_
            | refine trow_use (by assumption) ?_
            | refine trow_in (fun _ _ => ?_)
            | refine trow_nil ?_
            | refine fun _ => ?_))
          | exact rfl)
    rintro - g1
    refine cuts_step (by rfl) (fun _ : Unit => mkS 104 [(2, .ptr 0 0), (3, .ptr 1 0), (4, B false), (6, .ptr 2 0), (7, B bb), (8, .ptr 4 0), (9, .ptr 6 0), (10, B bb), (11, I 1)] [.cells [I f, .sl 3 (l.map VtD.row)], .cells [I r, I a, I d], .cells [I f, .own 3], .arr 3 (S.map VtD.row), .cells [I f, .own 5], .arr 3 (l.map VtD.row), .cells [I f, .own 7], .arr 3 (S.map VtD.row)] Fs) (fun _ => True) ?_ ?_
    · repeat' (first
        | ((conv => whnf); (first
          | refine draw_plan (id := 5) [] [] (.take 0 (.take 2 (.two 1 (.two 3 (.two 4 (.take 5 (.take 6 (.take 7 (.run 8 (.run 9 (.take 10 .done)))))) 8 (.run 4 (.take 5 (.take 6 (.take 7 (.run 9 (.take 10 .done))))))) 8 (.run 3 (.run 4 (.take 5 (.take 6 (.take 7 (.run 9 (.take 10 .done)))))))) 8 (.run 1 (.run 3 (.run 4 (.take 5 (.take 6 (.take 7 (.run 9 (.take 10 .done))))))))))) (by kernel_rfl) (by kernel_rfl) ?_
          | refine draw_plan (id := 7) [] [] (.take 0 (.take 1 (.two 2 (.two 3 (.take 4 (.take 5 (.take 6 (.run 7 (.run 8 (.take 9 .done)))))) 7 (.run 3 (.take 4 (.take 5 (.take 6 (.run 8 (.take 9 .done))))))) 7 (.run 2 (.run 3 (.take 4 (.take 5 (.take 6 (.run 8 (.take 9 .done)))))))))) (by kernel_rfl) (by kernel_rfl) ?_
          | refine draw_plan (id := 10) [] [] (.take 0 (.take 1 (.run 2 (.run 3 (.take 4 .done))))) (by kernel_rfl) (by kernel_rfl) ?_
          | refine draw_plan (id := 24) [] [] (.take 0 (.take 2 (.two 1 (.two 3 (.two 4 (.take 5 (.take 6 (.take 7 (.run 8 (.run 9 (.take 10 .done)))))) 8 (.run 4 (.take 5 (.take 6 (.take 7 (.run 9 (.take 10 .done))))))) 8 (.run 3 (.run 4 (.take 5 (.take 6 (.take 7 (.run 9 (.take 10 .done)))))))) 8 (.run 1 (.run 3 (.run 4 (.take 5 (.take 6 (.take 7 (.run 9 (.take 10 .done))))))))))) (by kernel_rfl) (by kernel_rfl) ?_
          | refine brK_dec (fun _ => ?_) (fun _ => ?_)
          | refine brK_ndec (fun _ => ?_) (fun _ => ?_)
          | refine brK_not (fun _ => ?_) (fun _ => ?_)
          | refine brK_in (fun _ => ?_) (fun _ => ?_)
          | refine And.intro (by first | exact rfl | exact ⟨_, rfl, rfl⟩ | exact ⟨rfl, rfl, rfl⟩ | exact of_decide_eq_true rfl | exact trivial | assumption | omega | (show (_ ≤ _ ∧ _ ≤ _); omega) | (simp; omega) | exact ⟨by first | omega | (simp; omega), _, rfl, rfl⟩) ?_
          | refine Quo.l (And.intro (by first | exact rfl | assumption | omega | (simp; omega)) ?_)
          | refine Quo.r (And.intro (by omega) ?_)
          | refine Both.mk (fun e => absurd (hq.symm.trans e) (by decide)) ?_
          | refine Both.mk ?_ (fun e => absurd (hq.symm.trans e) (by decide))
          | refine Both.mk ?_ ?_
          | refine Exists.intro _ (And.intro rfl ?_)
          | refine optT_use (by assumption) ?_
          | refine trow_use (by assumption) ?_
          | refine trow_in (fun _ _ => ?_)
          | refine trow_nil ?_
          | refine fun _ => ?_))
        | exact rfl)
      all_goals rw [hS]
      all_goals refine ⟨rfl, S, rfl, by omega, ?_⟩
      repeat' (first
        | ((conv => whnf); (first
          | refine draw_plan (id := 5) [] [] (.take 0 (.take 2 (.two 1 (.two 3 (.two 4 (.take 5 (.take 6 (.take 7 (.run 8 (.run 9 (.take 10 .done)))))) 8 (.run 4 (.take 5 (.take 6 (.take 7 (.run 9 (.take 10 .done))))))) 8 (.run 3 (.run 4 (.take 5 (.take 6 (.take 7 (.run 9 (.take 10 .done)))))))) 8 (.run 1 (.run 3 (.run 4 (.take 5 (.take 6 (.take 7 (.run 9 (.take 10 .done))))))))))) (by kernel_rfl) (by kernel_rfl) ?_
          | refine draw_plan (id := 7) [] [] (.take 0 (.take 1 (.two 2 (.two 3 (.take 4 (.take 5 (.take 6 (.run 7 (.run 8 (.take 9 .done)))))) 7 (.run 3 (.take 4 (.take 5 (.take 6 (.run 8 (.take 9 .done))))))) 7 (.run 2 (.run 3 (.take 4 (.take 5 (.take 6 (.run 8 (.take 9 .done)))))))))) (by kernel_rfl) (by kernel_rfl) ?_
          | refine draw_plan (id := 10) [] [] (.take 0 (.take 1 (.run 2 (.run 3 (.take 4 .done))))) (by kernel_rfl) (by kernel_rfl) ?_
          | refine draw_plan (id := 24) [] [] (.take 0 (.take 2 (.two 1 (.two 3 (.two 4 (.take 5 (.take 6 (.take 7 (.run 8 (.run 9 (.take 10 .done)))))) 8 (.run 4 (.take 5 (.take 6 (.take 7 (.run 9 (.take 10 .done))))))) 8 (.run 3 (.run 4 (.take 5 (.take 6 (.take 7 (.run 9 (.take 10 .done)))))))) 8 (.run 1 (.run 3 (.run 4 (.take 5 (.take 6 (.take 7 (.run 9 (.take 10 .done))))))))))) (by kernel_rfl) (by kernel_rfl) ?_
          | refine brK_dec (fun _ => ?_) (fun _ => ?_)
          | refine brK_ndec (fun _ => ?_) (fun _ => ?_)
          | refine brK_not (fun _ => ?_) (fun _ => ?_)
          | refine brK_in (fun _ => ?_) (fun _ => ?_)
          | refine And.intro (by first | exact rfl | exact ⟨_, rfl, rfl⟩ | exact ⟨rfl, rfl, rfl⟩ | exact of_decide_eq_true rfl | exact trivial | assumption | omega | (show (_ ≤ _ ∧ _ ≤ _); omega) | (simp; omega) | exact ⟨by first | omega | (simp; omega), _, rfl, rfl⟩) ?_
          | refine Quo.l (And.intro (by first | exact rfl | assumption | omega | (simp; omega)) ?_)
          | refine Quo.r (And.intro (by omega) ?_)
          | refine Both.mk (fun e => absurd (hq.symm.trans e) (by decide)) ?_
          | refine Both.mk ?_ (fun e => absurd (hq.symm.trans e) (by decide))
          | refine Both.mk ?_ ?_
          | refine Exists.intro _ (And.intro rfl ?_)
          | refine optT_use (by assumption) ?_
          | refine trow_use (by assumption) ?_
          | refine trow_in (fun _ _ => ?_)
          | refine trow_nil ?_
          | refine fun _ => ?_))
        | exact rfl)
      all_goals first
        | (rename_i e; exact absurd rfl e)
        | skip
      · refine ⟨(), [0, 1, 2, 3, 4, 5, 7, 6], trivial, ?_⟩
        repeat' (first
          | ((conv => whnf); (first
            | refine brK_dec (fun _ => ?_) (fun _ => ?_)
            | refine brK_ndec (fun _ => ?_) (fun _ => ?_)
            | refine brK_not (fun _ => ?_) (fun _ => ?_)
            | refine brK_in (fun _ => ?_) (fun _ => ?_)
            | refine And.intro (by first | exact rfl | exact ⟨_, rfl, rfl⟩ | exact ⟨rfl, rfl, rfl⟩ | exact of_decide_eq_true rfl | exact trivial | assumption | omega | (show (_ ≤ _ ∧ _ ≤ _); omega) | (simp; omega) | exact ⟨by first | omega | (simp; omega), _, rfl, rfl⟩) ?_
            | refine Quo.l (And.intro (by first | exact rfl | assumption | omega | (simp; omega)) ?_)
            | refine Quo.r (And.intro (by omega) ?_)
            | refine Both.mk ?_ ?_
            | refine Exists.intro _ (And.intro rfl ?_)
            | refine optT_use (by assumption) ?_
            | refine trow_use (by assumption) ?_
            | refine trow_in (fun _ _ => ?_)
            | refine trow_nil ?_
            | refine fun _ => ?_))
          | exact rfl)
      · refine ⟨(), [0, 1, 2, 3, 4, 5, 6, 7], trivial, ?_⟩
        repeat' (first
          | ((conv => whnf); (first
            | refine brK_dec (fun _ => ?_) (fun _ => ?_)
            | refine brK_ndec (fun _ => ?_) (fun _ => ?_)
            | refine brK_not (fun _ => ?_) (fun _ => ?_)
            | refine brK_in (fun _ => ?_) (fun _ => ?_)
            | refine And.intro (by first | exact rfl | exact ⟨_, rfl, rfl⟩ | exact ⟨rfl, rfl, rfl⟩ | exact of_decide_eq_true rfl | exact trivial | assumption | omega | (show (_ ≤ _ ∧ _ ≤ _); omega) | (simp; omega) | exact ⟨by first | omega | (simp; omega), _, rfl, rfl⟩) ?_
            | refine Quo.l (And.intro (by first | exact rfl | assumption | omega | (simp; omega)) ?_)
            | refine Quo.r (And.intro (by omega) ?_)
            | refine Both.mk ?_ ?_
            | refine Exists.intro _ (And.intro rfl ?_)
            | refine optT_use (by assumption) ?_
            | refine trow_use (by assumption) ?_
            | refine trow_in (fun _ _ => ?_)
            | refine trow_nil ?_
            | refine fun _ => ?_))
          | exact rfl)
      · refine ⟨(), [0, 1, 2, 3, 4, 5, 6, 7], trivial, ?_⟩
        repeat' (first
          | ((conv => whnf); (first
            | refine brK_dec (fun _ => ?_) (fun _ => ?_)
            | refine brK_ndec (fun _ => ?_) (fun _ => ?_)
            | refine brK_not (fun _ => ?_) (fun _ => ?_)
            | refine brK_in (fun _ => ?_) (fun _ => ?_)
            | refine And.intro (by first | exact rfl | exact ⟨_, rfl, rfl⟩ | exact ⟨rfl, rfl, rfl⟩ | exact of_decide_eq_true rfl | exact trivial | assumption | omega | (show (_ ≤ _ ∧ _ ≤ _); omega) | (simp; omega) | exact ⟨by first | omega | (simp; omega), _, rfl, rfl⟩) ?_
            | refine Quo.l (And.intro (by first | exact rfl | assumption | omega | (simp; omega)) ?_)
            | refine Quo.r (And.intro (by omega) ?_)
            | refine Both.mk ?_ ?_
            | refine Exists.intro _ (And.intro rfl ?_)
            | refine optT_use (by assumption) ?_
            | refine trow_use (by assumption) ?_
            | refine trow_in (fun _ _ => ?_)
            | refine trow_nil ?_
            | refine fun _ => ?_))
          | exact rfl)
    rintro - -
    have ms : ∀ (S : List VtD) (k : Int), S.length ≤ 1048576 → (mkT k S.length).length = S.length := fun S k _ => mkT_len k S.length
    refine cuts_step (by rfl) (fun _ : Unit => mkS 104 [(2, .ptr 0 0), (3, .ptr 1 0), (4, B false), (6, .ptr 2 0), (7, B bb), (9, .ptr 4 0), (12, I (1 + 3 * S.length))] [.cells [I f, .sl 3 (l.map VtD.row)], .cells [I r, I a, I d], .cells [I f, .own 3], .arr 3 (S.map VtD.row), .cells [I f, .own 5], .arr 3 ((mkT 1 S.length).map VtD.row)] Fs) (fun _ => True) ?_ ?_
    · repeat' (first
        | ((conv => whnf); (first
          | refine draw_plan (id := 5) [] [] (.take 0 (.take 2 (.two 1 (.two 3 (.two 4 (.take 5 (.take 6 (.take 7 (.run 8 (.run 9 (.take 10 .done)))))) 8 (.run 4 (.take 5 (.take 6 (.take 7 (.run 9 (.take 10 .done))))))) 8 (.run 3 (.run 4 (.take 5 (.take 6 (.take 7 (.run 9 (.take 10 .done)))))))) 8 (.run 1 (.run 3 (.run 4 (.take 5 (.take 6 (.take 7 (.run 9 (.take 10 .done))))))))))) (by kernel_rfl) (by kernel_rfl) ?_
          | refine draw_plan (id := 7) [] [] (.take 0 (.take 1 (.two 2 (.two 3 (.take 4 (.take 5 (.take 6 (.run 7 (.run 8 (.take 9 .done)))))) 7 (.run 3 (.take 4 (.take 5 (.take 6 (.run 8 (.take 9 .done))))))) 7 (.run 2 (.run 3 (.take 4 (.take 5 (.take 6 (.run 8 (.take 9 .done)))))))))) (by kernel_rfl) (by kernel_rfl) ?_
          | refine draw_plan (id := 10) [] [] (.take 0 (.take 1 (.run 2 (.run 3 (.take 4 .done))))) (by kernel_rfl) (by kernel_rfl) ?_
          | refine draw_plan (id := 24) [] [] (.take 0 (.take 2 (.two 1 (.two 3 (.two 4 (.take 5 (.take 6 (.take 7 (.run 8 (.run 9 (.take 10 .done)))))) 8 (.run 4 (.take 5 (.take 6 (.take 7 (.run 9 (.take 10 .done))))))) 8 (.run 3 (.run 4 (.take 5 (.take 6 (.take 7 (.run 9 (.take 10 .done)))))))) 8 (.run 1 (.run 3 (.run 4 (.take 5 (.take 6 (.take 7 (.run 9 (.take 10 .done))))))))))) (by kernel_rfl) (by kernel_rfl) ?_
          | refine brK_dec (fun _ => ?_) (fun _ => ?_)
          | refine brK_ndec (fun _ => ?_) (fun _ => ?_)
          | refine brK_not (fun _ => ?_) (fun _ => ?_)
          | refine brK_in (fun _ => ?_) (fun _ => ?_)
          | refine And.intro (by first | exact rfl | exact ⟨_, rfl, rfl⟩ | exact ⟨rfl, rfl, rfl⟩ | exact of_decide_eq_true rfl | exact trivial | assumption | omega | (show (_ ≤ _ ∧ _ ≤ _); omega) | (simp; omega) | exact ⟨by first | omega | (simp; omega), _, rfl, rfl⟩) ?_
          | refine Quo.l (And.intro (by first | exact rfl | assumption | omega | (simp; omega)) ?_)
          | refine Quo.r (And.intro (by omega) ?_)
          | refine Both.mk (fun e => absurd (hq.symm.trans e) (by decide)) ?_
          | refine Both.mk ?_ (fun e => absurd (hq.symm.trans e) (by decide))
          | refine Both.mk ?_ ?_
          | refine Exists.intro _ (And.intro rfl ?_)
          | refine optT_use (by assumption) ?_
          | refine trow_use (by assumption) ?_
          | refine trow_in (fun _ _ => ?_)
          | refine trow_nil ?_
          | refine fun _ => ?_))
        | exact rfl)
      (conv => whnf)
      refine Or.inl ?_
      repeat' (first
        | ((conv => whnf); (first
          | refine draw_plan (id := 5) [] [] (.take 0 (.take 2 (.two 1 (.two 3 (.two 4 (.take 5 (.take 6 (.take 7 (.run 8 (.run 9 (.take 10 .done)))))) 8 (.run 4 (.take 5 (.take 6 (.take 7 (.run 9 (.take 10 .done))))))) 8 (.run 3 (.run 4 (.take 5 (.take 6 (.take 7 (.run 9 (.take 10 .done)))))))) 8 (.run 1 (.run 3 (.run 4 (.take 5 (.take 6 (.take 7 (.run 9 (.take 10 .done))))))))))) (by kernel_rfl) (by kernel_rfl) ?_
          | refine draw_plan (id := 7) [] [] (.take 0 (.take 1 (.two 2 (.two 3 (.take 4 (.take 5 (.take 6 (.run 7 (.run 8 (.take 9 .done)))))) 7 (.run 3 (.take 4 (.take 5 (.take 6 (.run 8 (.take 9 .done))))))) 7 (.run 2 (.run 3 (.take 4 (.take 5 (.take 6 (.run 8 (.take 9 .done)))))))))) (by kernel_rfl) (by kernel_rfl) ?_
          | refine draw_plan (id := 10) [] [] (.take 0 (.take 1 (.run 2 (.run 3 (.take 4 .done))))) (by kernel_rfl) (by kernel_rfl) ?_
          | refine draw_plan (id := 24) [] [] (.take 0 (.take 2 (.two 1 (.two 3 (.two 4 (.take 5 (.take 6 (.take 7 (.run 8 (.run 9 (.take 10 .done)))))) 8 (.run 4 (.take 5 (.take 6 (.take 7 (.run 9 (.take 10 .done))))))) 8 (.run 3 (.run 4 (.take 5 (.take 6 (.take 7 (.run 9 (.take 10 .done)))))))) 8 (.run 1 (.run 3 (.run 4 (.take 5 (.take 6 (.take 7 (.run 9 (.take 10 .done))))))))))) (by kernel_rfl) (by kernel_rfl) ?_
          | refine brK_dec (fun _ => ?_) (fun _ => ?_)
          | refine brK_ndec (fun _ => ?_) (fun _ => ?_)
          | refine brK_not (fun _ => ?_) (fun _ => ?_)
          | refine brK_in (fun _ => ?_) (fun _ => ?_)
          | refine And.intro (by first | exact rfl | exact (by first | (rw [List.length_map, List.length_map, mkT_len]; done) | exact free_rows _ | (rw [mkT_len]; done)) | exact ⟨_, rfl, rfl⟩ | exact ⟨rfl, rfl, rfl⟩ | exact of_decide_eq_true rfl | exact trivial | assumption | omega | (show (_ ≤ _ ∧ _ ≤ _); omega) | (simp; omega) | exact ⟨by first | omega | (simp; omega), _, rfl, rfl⟩) ?_
          | refine Quo.l (And.intro (by first | exact rfl | exact (by first | (rw [List.length_map, List.length_map, mkT_len]; done) | exact free_rows _ | (rw [mkT_len]; done)) | assumption | omega | (simp; omega)) ?_)
          | refine Quo.r (And.intro (by omega) ?_)
          | refine Both.mk (fun e => absurd (hq.symm.trans e) (by decide)) ?_
          | refine Both.mk ?_ (fun e => absurd (hq.symm.trans e) (by decide))
          | refine Both.mk ?_ ?_
          | refine Exists.intro _ (And.intro rfl ?_)
          | refine optT_use (by assumption) ?_
          | refine trow_use (by assumption) ?_
          | refine trow_in (fun _ _ => ?_)
          | refine trow_nil ?_
          | refine fun _ => ?_))
        | exact rfl)
      · rename_i e
        exact absurd rfl e
      (conv => whnf)
      refine Or.inl ?_
      repeat' (first
        | ((conv => whnf); (first
          | refine draw_plan (id := 5) [] [] (.take 0 (.take 2 (.two 1 (.two 3 (.two 4 (.take 5 (.take 6 (.take 7 (.run 8 (.run 9 (.take 10 .done)))))) 8 (.run 4 (.take 5 (.take 6 (.take 7 (.run 9 (.take 10 .done))))))) 8 (.run 3 (.run 4 (.take 5 (.take 6 (.take 7 (.run 9 (.take 10 .done)))))))) 8 (.run 1 (.run 3 (.run 4 (.take 5 (.take 6 (.take 7 (.run 9 (.take 10 .done))))))))))) (by kernel_rfl) (by kernel_rfl) ?_
          | refine draw_plan (id := 7) [] [] (.take 0 (.take 1 (.two 2 (.two 3 (.take 4 (.take 5 (.take 6 (.run 7 (.run 8 (.take 9 .done)))))) 7 (.run 3 (.take 4 (.take 5 (.take 6 (.run 8 (.take 9 .done))))))) 7 (.run 2 (.run 3 (.take 4 (.take 5 (.take 6 (.run 8 (.take 9 .done)))))))))) (by kernel_rfl) (by kernel_rfl) ?_
          | refine draw_plan (id := 10) [] [] (.take 0 (.take 1 (.run 2 (.run 3 (.take 4 .done))))) (by kernel_rfl) (by kernel_rfl) ?_
          | refine draw_plan (id := 24) [] [] (.take 0 (.take 2 (.two 1 (.two 3 (.two 4 (.take 5 (.take 6 (.take 7 (.run 8 (.run 9 (.take 10 .done)))))) 8 (.run 4 (.take 5 (.take 6 (.take 7 (.run 9 (.take 10 .done))))))) 8 (.run 3 (.run 4 (.take 5 (.take 6 (.take 7 (.run 9 (.take 10 .done)))))))) 8 (.run 1 (.run 3 (.run 4 (.take 5 (.take 6 (.take 7 (.run 9 (.take 10 .done))))))))))) (by kernel_rfl) (by kernel_rfl) ?_
          | refine brK_dec (fun _ => ?_) (fun _ => ?_)
          | refine brK_ndec (fun _ => ?_) (fun _ => ?_)
          | refine brK_not (fun _ => ?_) (fun _ => ?_)
          | refine brK_in (fun _ => ?_) (fun _ => ?_)
          | refine And.intro (by first | exact rfl | exact (by first | (rw [List.length_map, List.length_map, mkT_len]; done) | exact free_rows _ | (rw [mkT_len]; done) | (rw [mkT_len]; omega)) | exact ⟨_, rfl, rfl⟩ | exact ⟨rfl, rfl, rfl⟩ | exact of_decide_eq_true rfl | exact trivial | assumption | omega | (show (_ ≤ _ ∧ _ ≤ _); omega) | (simp; omega) | exact ⟨by first | omega | (simp; omega), _, rfl, rfl⟩) ?_
          | refine Quo.l (And.intro (by first | exact rfl | exact (by first | (rw [List.length_map, List.length_map, mkT_len]; done) | exact free_rows _ | (rw [mkT_len]; done) | (rw [mkT_len]; omega)) | assumption | omega | (simp; omega)) ?_)
          | refine Quo.r (And.intro (by omega) ?_)
          | refine Both.mk (fun e => absurd (hq.symm.trans e) (by decide)) ?_
          | refine Both.mk ?_ (fun e => absurd (hq.symm.trans e) (by decide))
          | refine Both.mk ?_ ?_
          | refine Exists.intro _ (And.intro rfl ?_)
          | refine optT_use (by assumption) ?_
          | refine trow_use (by assumption) ?_
          | refine trow_in (fun _ _ => ?_)
          | refine trow_nil ?_
          | refine fun _ => ?_))
        | exact rfl)
      · rename_i e
        exact absurd (by rw [mkT_len]) e
      refine ⟨(), [0, 1, 2, 3, 6, 7], trivial, ?_⟩
      repeat' (first
        | ((conv => whnf); (first
          | refine brK_dec (fun _ => ?_) (fun _ => ?_)
          | refine brK_ndec (fun _ => ?_) (fun _ => ?_)
          | refine brK_not (fun _ => ?_) (fun _ => ?_)
          | refine brK_in (fun _ => ?_) (fun _ => ?_)
          | refine And.intro (by first | exact rfl | exact ⟨_, rfl, rfl⟩ | exact ⟨rfl, rfl, rfl⟩ | exact of_decide_eq_true rfl | exact trivial | assumption | omega | (show (_ ≤ _ ∧ _ ≤ _); omega) | (simp; omega) | exact ⟨by first | omega | (simp; omega), _, rfl, rfl⟩) ?_
          | refine Quo.l (And.intro (by first | exact rfl | assumption | omega | (simp; omega)) ?_)
          | refine Quo.r (And.intro (by omega) ?_)
          | refine Both.mk ?_ ?_
          | refine Exists.intro _ (And.intro rfl ?_)
          | refine optT_use (by assumption) ?_
          | refine trow_use (by assumption) ?_
          | refine trow_in (fun _ _ => ?_)
          | refine trow_nil ?_
          | refine fun _ => ?_))
        | exact rfl)
    rintro - -
    repeat' (first
      | ((conv => whnf); (first
        | refine draw_plan (id := 5) [] [] (.take 0 (.take 2 (.two 1 (.two 3 (.two 4 (.take 5 (.take 6 (.take 7 (.run 8 (.run 9 (.take 10 .done)))))) 8 (.run 4 (.take 5 (.take 6 (.take 7 (.run 9 (.take 10 .done))))))) 8 (.run 3 (.run 4 (.take 5 (.take 6 (.take 7 (.run 9 (.take 10 .done)))))))) 8 (.run 1 (.run 3 (.run 4 (.take 5 (.take 6 (.take 7 (.run 9 (.take 10 .done))))))))))) (by kernel_rfl) (by kernel_rfl) ?_
        | refine draw_plan (id := 7) [] [] (.take 0 (.take 1 (.two 2 (.two 3 (.take 4 (.take 5 (.take 6 (.run 7 (.run 8 (.take 9 .done)))))) 7 (.run 3 (.take 4 (.take 5 (.take 6 (.run 8 (.take 9 .done))))))) 7 (.run 2 (.run 3 (.take 4 (.take 5 (.take 6 (.run 8 (.take 9 .done)))))))))) (by kernel_rfl) (by kernel_rfl) ?_
        | refine draw_plan (id := 10) [] [] (.take 0 (.take 1 (.run 2 (.run 3 (.take 4 .done))))) (by kernel_rfl) (by kernel_rfl) ?_
        | refine draw_plan (id := 24) [] [] (.take 0 (.take 2 (.two 1 (.two 3 (.two 4 (.take 5 (.take 6 (.take 7 (.run 8 (.run 9 (.take 10 .done)))))) 8 (.run 4 (.take 5 (.take 6 (.take 7 (.run 9 (.take 10 .done))))))) 8 (.run 3 (.run 4 (.take 5 (.take 6 (.take 7 (.run 9 (.take 10 .done)))))))) 8 (.run 1 (.run 3 (.run 4 (.take 5 (.take 6 (.take 7 (.run 9 (.take 10 .done))))))))))) (by kernel_rfl) (by kernel_rfl) ?_
        | refine brK_dec (fun _ => ?_) (fun _ => ?_)
        | refine brK_ndec (fun _ => ?_) (fun _ => ?_)
        | refine brK_not (fun _ => ?_) (fun _ => ?_)
        | refine brK_in (fun _ => ?_) (fun _ => ?_)
        | refine And.intro (by first | exact rfl | exact (by first | (rw [List.length_map, List.length_map, mkT_len]; done) | exact free_rows _ | (rw [mkT_len]; done) | (rw [mkT_len]; omega)) | exact ⟨_, rfl, rfl⟩ | exact ⟨rfl, rfl, rfl⟩ | exact of_decide_eq_true rfl | exact trivial | assumption | omega | (show (_ ≤ _ ∧ _ ≤ _); omega) | (simp; omega) | exact ⟨by first | omega | (simp; omega), _, rfl, rfl⟩) ?_
        | refine Quo.l (And.intro (by first | exact rfl | exact (by first | (rw [List.length_map, List.length_map, mkT_len]; done) | exact free_rows _ | (rw [mkT_len]; done) | (rw [mkT_len]; omega)) | assumption | omega | (simp; omega)) ?_)
        | refine Quo.r (And.intro (by omega) ?_)
        | refine Both.mk (fun e => absurd (hq.symm.trans e) (by decide)) ?_
        | refine Both.mk ?_ (fun e => absurd (hq.symm.trans e) (by decide))
        | refine Both.mk ?_ ?_
        | refine Exists.intro _ (And.intro rfl ?_)
        | refine optT_use (by assumption) ?_
        | refine trow_use (by assumption) ?_
        | refine trow_in (fun _ _ => ?_)
        | refine trow_nil ?_
        | refine fun _ => ?_))
      | exact rfl)
    all_goals rw [hS]
    all_goals refine ⟨rfl, S, rfl, by omega, ?_⟩
    repeat' (first
      | ((conv => whnf); (first
        | refine draw_plan (id := 5) [] [] (.take 0 (.take 2 (.two 1 (.two 3 (.two 4 (.take 5 (.take 6 (.take 7 (.run 8 (.run 9 (.take 10 .done)))))) 8 (.run 4 (.take 5 (.take 6 (.take 7 (.run 9 (.take 10 .done))))))) 8 (.run 3 (.run 4 (.take 5 (.take 6 (.take 7 (.run 9 (.take 10 .done)))))))) 8 (.run 1 (.run 3 (.run 4 (.take 5 (.take 6 (.take 7 (.run 9 (.take 10 .done))))))))))) (by kernel_rfl) (by kernel_rfl) ?_
        | refine draw_plan (id := 7) [] [] (.take 0 (.take 1 (.two 2 (.two 3 (.take 4 (.take 5 (.take 6 (.run 7 (.run 8 (.take 9 .done)))))) 7 (.run 3 (.take 4 (.take 5 (.take 6 (.run 8 (.take 9 .done))))))) 7 (.run 2 (.run 3 (.take 4 (.take 5 (.take 6 (.run 8 (.take 9 .done)))))))))) (by kernel_rfl) (by kernel_rfl) ?_
        | refine draw_plan (id := 10) [] [] (.take 0 (.take 1 (.run 2 (.run 3 (.take 4 .done))))) (by kernel_rfl) (by kernel_rfl) ?_
        | refine draw_plan (id := 24) [] [] (.take 0 (.take 2 (.two 1 (.two 3 (.two 4 (.take 5 (.take 6 (.take 7 (.run 8 (.run 9 (.take 10 .done)))))) 8 (.run 4 (.take 5 (.take 6 (.take 7 (.run 9 (.take 10 .done))))))) 8 (.run 3 (.run 4 (.take 5 (.take 6 (.take 7 (.run 9 (.take 10 .done)))))))) 8 (.run 1 (.run 3 (.run 4 (.take 5 (.take 6 (.take 7 (.run 9 (.take 10 .done))))))))))) (by kernel_rfl) (by kernel_rfl) ?_
        | refine brK_dec (fun _ => ?_) (fun _ => ?_)
        | refine brK_ndec (fun _ => ?_) (fun _ => ?_)
        | refine brK_not (fun _ => ?_) (fun _ => ?_)
        | refine brK_in (fun _ => ?_) (fun _ => ?_)
        | refine And.intro (by first | exact rfl | exact (by first | (rw [List.length_map, List.length_map, mkT_len]; done) | exact free_rows _ | (rw [mkT_len]; done) | (rw [mkT_len]; omega)) | exact ⟨_, rfl, rfl⟩ | exact ⟨rfl, rfl, rfl⟩ | exact of_decide_eq_true rfl | exact trivial | assumption | omega | (show (_ ≤ _ ∧ _ ≤ _); omega) | (simp; omega) | exact ⟨by first | omega | (simp; omega), _, rfl, rfl⟩) ?_
        | refine Quo.l (And.intro (by first | exact rfl | exact (by first | (rw [List.length_map, List.length_map, mkT_len]; done) | exact free_rows _ | (rw [mkT_len]; done) | (rw [mkT_len]; omega)) | assumption | omega | (simp; omega)) ?_)
        | refine Quo.r (And.intro (by omega) ?_)
        | refine Both.mk (fun e => absurd (hq.symm.trans e) (by decide)) ?_
        | refine Both.mk ?_ (fun e => absurd (hq.symm.trans e) (by decide))
        | refine Both.mk ?_ ?_
        | refine Exists.intro _ (And.intro rfl ?_)
        | refine optT_use (by assumption) ?_
        | refine trow_use (by assumption) ?_
        | refine trow_in (fun _ _ => ?_)
        | refine trow_nil ?_
        | refine fun _ => ?_))
      | exact rfl)
    all_goals first
      | exact h
      | (rename_i e; exact absurd rfl e)
      | (rename_i e; exact absurd (by rw [mkT_len]) e)
  · refine cuts_step (by rfl) (fun _ : Unit => mkS 104 [(2, .ptr 0 0), (3, .ptr 1 0), (4, B false), (6, .ptr 2 0), (7, B false), (8, .ptr 3 0)] [.cells [I f, .sl 3 (l.map VtD.row)], .cells [I r, I a, I d], .cells [I 0, .val (.slice none 0 0)], .cells [I f, .own 4], .arr 3 (l.map VtD.row)] Fs) (fun _ => l.length ≤ 1048576) ?_ ?_
    · repeat' (first
        | ((conv => whnf); (first
          | refine draw_plan (id := 5) [] [] (.take 0 (.take 2 (.two 1 (.two 3 (.two 4 (.take 5 (.take 6 (.take 7 (.run 8 (.run 9 (.take 10 .done)))))) 8 (.run 4 (.take 5 (.take 6 (.take 7 (.run 9 (.take 10 .done))))))) 8 (.run 3 (.run 4 (.take 5 (.take 6 (.take 7 (.run 9 (.take 10 .done)))))))) 8 (.run 1 (.run 3 (.run 4 (.take 5 (.take 6 (.take 7 (.run 9 (.take 10 .done))))))))))) (by kernel_rfl) (by kernel_rfl) ?_
          | refine draw_plan (id := 7) [] [] (.take 0 (.take 1 (.two 2 (.two 3 (.take 4 (.take 5 (.take 6 (.run 7 (.run 8 (.take 9 .done)))))) 7 (.run 3 (.take 4 (.take 5 (.take 6 (.run 8 (.take 9 .done))))))) 7 (.run 2 (.run 3 (.take 4 (.take 5 (.take 6 (.run 8 (.take 9 .done)))))))))) (by kernel_rfl) (by kernel_rfl) ?_
          | refine draw_plan (id := 10) [] [] (.take 0 (.take 1 (.run 2 (.run 3 (.take 4 .done))))) (by kernel_rfl) (by kernel_rfl) ?_
          | refine draw_plan (id := 24) [] [] (.take 0 (.take 2 (.two 1 (.two 3 (.two 4 (.take 5 (.take 6 (.take 7 (.run 8 (.run 9 (.take 10 .done)))))) 8 (.run 4 (.take 5 (.take 6 (.take 7 (.run 9 (.take 10 .done))))))) 8 (.run 3 (.run 4 (.take 5 (.take 6 (.take 7 (.run 9 (.take 10 .done)))))))) 8 (.run 1 (.run 3 (.run 4 (.take 5 (.take 6 (.take 7 (.run 9 (.take 10 .done))))))))))) (by kernel_rfl) (by kernel_rfl) ?_
          | refine brK_dec (fun _ => ?_) (fun _ => ?_)
          | refine brK_ndec (fun _ => ?_) (fun _ => ?_)
          | refine brK_not (fun _ => ?_) (fun _ => ?_)
          | refine brK_in (fun _ => ?_) (fun _ => ?_)
          | refine And.intro (by first | exact rfl | exact ⟨_, rfl, rfl⟩ | exact ⟨rfl, rfl, rfl⟩ | exact of_decide_eq_true rfl | exact trivial | assumption | omega | (show (_ ≤ _ ∧ _ ≤ _); omega) | (simp; omega) | exact ⟨by first | omega | (simp; omega), _, rfl, rfl⟩) ?_
          | refine Quo.l (And.intro (by first | exact rfl | assumption | omega | (simp; omega)) ?_)
          | refine Quo.r (And.intro (by omega) ?_)
          | refine Both.mk ?_ ?_
          | refine Exists.intro _ (And.intro rfl ?_)
          | refine optT_use (by assumption) ?_
          | refine trow_use (by assumption) ?_
          | refine trow_in (fun _ _ => ?_)
          | refine trow_nil ?_
          | refine fun _ => ?_))
        | exact rfl)
      · exact h
      all_goals
        rename_i h0
        have g1 := szT_le h0
        rw [hlen] at g1
      repeat' (first
        | ((conv => whnf); (first
          | refine draw_plan (id := 5) [] [] (.take 0 (.take 2 (.two 1 (.two 3 (.two 4 (.take 5 (.take 6 (.take 7 (.run 8 (.run 9 (.take 10 .done)))))) 8 (.run 4 (.take 5 (.take 6 (.take 7 (.run 9 (.take 10 .done))))))) 8 (.run 3 (.run 4 (.take 5 (.take 6 (.take 7 (.run 9 (.take 10 .done)))))))) 8 (.run 1 (.run 3 (.run 4 (.take 5 (.take 6 (.take 7 (.run 9 (.take 10 .done))))))))))) (by kernel_rfl) (by kernel_rfl) ?_
          | refine draw_plan (id := 7) [] [] (.take 0 (.take 1 (.two 2 (.two 3 (.take 4 (.take 5 (.take 6 (.run 7 (.run 8 (.take 9 .done)))))) 7 (.run 3 (.take 4 (.take 5 (.take 6 (.run 8 (.take 9 .done))))))) 7 (.run 2 (.run 3 (.take 4 (.take 5 (.take 6 (.run 8 (.take 9 .done)))))))))) (by kernel_rfl) (by kernel_rfl) ?_
          | refine draw_plan (id := 10) [] [] (.take 0 (.take 1 (.run 2 (.run 3 (.take 4 .done))))) (by kernel_rfl) (by kernel_rfl) ?_
          | refine draw_plan (id := 24) [] [] (.take 0 (.take 2 (.two 1 (.two 3 (.two 4 (.take 5 (.take 6 (.take 7 (.run 8 (.run 9 (.take 10 .done)))))) 8 (.run 4 (.take 5 (.take 6 (.take 7 (.run 9 (.take 10 .done))))))) 8 (.run 3 (.run 4 (.take 5 (.take 6 (.take 7 (.run 9 (.take 10 .done)))))))) 8 (.run 1 (.run 3 (.run 4 (.take 5 (.take 6 (.take 7 (.run 9 (.take 10 .done))))))))))) (by kernel_rfl) (by kernel_rfl) ?_
          | refine brK_dec (fun _ => ?_) (fun _ => ?_)
          | refine brK_ndec (fun _ => ?_) (fun _ => ?_)
          | refine brK_not (fun _ => ?_) (fun _ => ?_)
          | refine brK_in (fun _ => ?_) (fun _ => ?_)
          | refine And.intro (by first | exact rfl | exact ⟨_, rfl, rfl⟩ | exact ⟨rfl, rfl, rfl⟩ | exact of_decide_eq_true rfl | exact trivial | assumption | omega | (show (_ ≤ _ ∧ _ ≤ _); omega) | (simp; omega) | exact ⟨by first | omega | (simp; omega), _, rfl, rfl⟩) ?_
          | refine Quo.l (And.intro (by first | exact rfl | assumption | omega | (simp; omega)) ?_)
          | refine Quo.r (And.intro (by omega) ?_)
          | refine Both.mk (fun e => absurd (hq.symm.trans e) (by decide)) ?_
          | refine Both.mk ?_ (fun e => absurd (hq.symm.trans e) (by decide))
          | refine Both.mk ?_ ?_
          | refine Exists.intro _ (And.intro rfl ?_)
          | refine optT_use (by assumption) ?_
          | refine trow_use (by assumption) ?_
          | refine trow_in (fun _ _ => ?_)
          | refine trow_nil ?_
          | refine fun _ => ?_))
        | exact rfl)
      · refine ⟨(), [0, 1, 3, 5, 4], by omega, ?_⟩
        repeat' (first
          | ((conv => whnf); (first
            | refine brK_dec (fun _ => ?_) (fun _ => ?_)
            | refine brK_ndec (fun _ => ?_) (fun _ => ?_)
            | refine brK_not (fun _ => ?_) (fun _ => ?_)
            | refine brK_in (fun _ => ?_) (fun _ => ?_)
            | refine And.intro (by first | exact rfl | exact ⟨_, rfl, rfl⟩ | exact ⟨rfl, rfl, rfl⟩ | exact of_decide_eq_true rfl | exact trivial | assumption | omega | (show (_ ≤ _ ∧ _ ≤ _); omega) | (simp; omega) | exact ⟨by first | omega | (simp; omega), _, rfl, rfl⟩) ?_
            | refine Quo.l (And.intro (by first | exact rfl | assumption | omega | (simp; omega)) ?_)
            | refine Quo.r (And.intro (by omega) ?_)
            | refine Both.mk ?_ ?_
            | refine Exists.intro _ (And.intro rfl ?_)
            | refine optT_use (by assumption) ?_
            | refine trow_use (by assumption) ?_
            | refine trow_in (fun _ _ => ?_)
            | refine trow_nil ?_
            | refine fun _ => ?_))
          | exact rfl)
      · refine ⟨(), [0, 1, 3, 5, 4], by omega, ?_⟩
        repeat' (first
          | ((conv => whnf); (first
            | refine brK_dec (fun _ => ?_) (fun _ => ?_)
            | refine brK_ndec (fun _ => ?_) (fun _ => ?_)
            | refine brK_not (fun _ => ?_) (fun _ => ?_)
            | refine brK_in (fun _ => ?_) (fun _ => ?_)
            | refine And.intro (by first | exact rfl | exact ⟨_, rfl, rfl⟩ | exact ⟨rfl, rfl, rfl⟩ | exact of_decide_eq_true rfl | exact trivial | assumption | omega | (show (_ ≤ _ ∧ _ ≤ _); omega) | (simp; omega) | exact ⟨by first | omega | (simp; omega), _, rfl, rfl⟩) ?_
            | refine Quo.l (And.intro (by first | exact rfl | assumption | omega | (simp; omega)) ?_)
            | refine Quo.r (And.intro (by omega) ?_)
            | refine Both.mk ?_ ?_
            | refine Exists.intro _ (And.intro rfl ?_)
            | refine optT_use (by assumption) ?_
            | refine trow_use (by assumption) ?_
            | refine trow_in (fun _ _ => ?_)
            | refine trow_nil ?_
            | refine fun _ => ?_))
          | exact rfl)
      · refine ⟨(), [0, 1, 3, 5, 4], by omega, ?_⟩
        repeat' (first
          | ((conv => whnf); (first
            | refine brK_dec (fun _ => ?_) (fun _ => ?_)
            | refine brK_ndec (fun _ => ?_) (fun _ => ?_)
            | refine brK_not (fun _ => ?_) (fun _ => ?_)
            | refine brK_in (fun _ => ?_) (fun _ => ?_)
            | refine And.intro (by first | exact rfl | exact ⟨_, rfl, rfl⟩ | exact ⟨rfl, rfl, rfl⟩ | exact of_decide_eq_true rfl | exact trivial | assumption | omega | (show (_ ≤ _ ∧ _ ≤ _); omega) | (simp; omega) | exact ⟨by first | omega | (simp; omega), _, rfl, rfl⟩) ?_
            | refine Quo.l (And.intro (by first | exact rfl | assumption | omega | (simp; omega)) ?_)
            | refine Quo.r (And.intro (by omega) ?_)
            | refine Both.mk ?_ ?_
            | refine Exists.intro _ (And.intro rfl ?_)
            | refine optT_use (by assumption) ?_
            | refine trow_use (by assumption) ?_
            | refine trow_in (fun _ _ => ?_)
            | refine trow_nil ?_
            | refine fun _ => ?_))
          | exact rfl)
      · refine ⟨(), [0, 1, 2, 5, 4], by omega, ?_⟩
        repeat' (first
          | ((conv => whnf); (first
            | refine brK_dec (fun _ => ?_) (fun _ => ?_)
            | refine brK_ndec (fun _ => ?_) (fun _ => ?_)
            | refine brK_not (fun _ => ?_) (fun _ => ?_)
            | refine brK_in (fun _ => ?_) (fun _ => ?_)
            | refine And.intro (by first | exact rfl | exact ⟨_, rfl, rfl⟩ | exact ⟨rfl, rfl, rfl⟩ | exact of_decide_eq_true rfl | exact trivial | assumption | omega | (show (_ ≤ _ ∧ _ ≤ _); omega) | (simp; omega) | exact ⟨by first | omega | (simp; omega), _, rfl, rfl⟩) ?_
            | refine Quo.l (And.intro (by first | exact rfl | assumption | omega | (simp; omega)) ?_)
            | refine Quo.r (And.intro (by omega) ?_)
            | refine Both.mk ?_ ?_
            | refine Exists.intro _ (And.intro rfl ?_)
            | refine optT_use (by assumption) ?_
            | refine trow_use (by assumption) ?_
            | refine trow_in (fun _ _ => ?_)
            | refine trow_nil ?_
            | refine fun _ => ?_))
          | exact rfl)
    rintro - g1
    refine cuts_step (by rfl) (fun _ : Unit => mkS 104 [(2, .ptr 0 0), (3, .ptr 1 0), (4, B false), (6, .ptr 2 0), (7, B false), (8, .ptr 3 0), (9, .ptr 5 0), (10, B false), (11, I 1)] [.cells [I f, .sl 3 (l.map VtD.row)], .cells [I r, I a, I d], .cells [I 0, .val (.slice none 0 0)], .cells [I f, .own 4], .arr 3 (l.map VtD.row), .cells [I 0, .val (.slice none 0 0)]] Fs) (fun _ => True) ?_ ?_
    · repeat' (first
        | ((conv => whnf); (first
          | refine draw_plan (id := 5) [] [] (.take 0 (.take 2 (.two 1 (.two 3 (.two 4 (.take 5 (.take 6 (.take 7 (.run 8 (.run 9 (.take 10 .done)))))) 8 (.run 4 (.take 5 (.take 6 (.take 7 (.run 9 (.take 10 .done))))))) 8 (.run 3 (.run 4 (.take 5 (.take 6 (.take 7 (.run 9 (.take 10 .done)))))))) 8 (.run 1 (.run 3 (.run 4 (.take 5 (.take 6 (.take 7 (.run 9 (.take 10 .done))))))))))) (by kernel_rfl) (by kernel_rfl) ?_
          | refine draw_plan (id := 7) [] [] (.take 0 (.take 1 (.two 2 (.two 3 (.take 4 (.take 5 (.take 6 (.run 7 (.run 8 (.take 9 .done)))))) 7 (.run 3 (.take 4 (.take 5 (.take 6 (.run 8 (.take 9 .done))))))) 7 (.run 2 (.run 3 (.take 4 (.take 5 (.take 6 (.run 8 (.take 9 .done)))))))))) (by kernel_rfl) (by kernel_rfl) ?_
          | refine draw_plan (id := 10) [] [] (.take 0 (.take 1 (.run 2 (.run 3 (.take 4 .done))))) (by kernel_rfl) (by kernel_rfl) ?_
          | refine draw_plan (id := 24) [] [] (.take 0 (.take 2 (.two 1 (.two 3 (.two 4 (.take 5 (.take 6 (.take 7 (.run 8 (.run 9 (.take 10 .done)))))) 8 (.run 4 (.take 5 (.take 6 (.take 7 (.run 9 (.take 10 .done))))))) 8 (.run 3 (.run 4 (.take 5 (.take 6 (.take 7 (.run 9 (.take 10 .done)))))))) 8 (.run 1 (.run 3 (.run 4 (.take 5 (.take 6 (.take 7 (.run 9 (.take 10 .done))))))))))) (by kernel_rfl) (by kernel_rfl) ?_
          | refine brK_dec (fun _ => ?_) (fun _ => ?_)
          | refine brK_ndec (fun _ => ?_) (fun _ => ?_)
          | refine brK_not (fun _ => ?_) (fun _ => ?_)
          | refine brK_in (fun _ => ?_) (fun _ => ?_)
          | refine And.intro (by first | exact rfl | exact ⟨_, rfl, rfl⟩ | exact ⟨rfl, rfl, rfl⟩ | exact of_decide_eq_true rfl | exact trivial | assumption | omega | (show (_ ≤ _ ∧ _ ≤ _); omega) | (simp; omega) | exact ⟨by first | omega | (simp; omega), _, rfl, rfl⟩) ?_
          | refine Quo.l (And.intro (by first | exact rfl | assumption | omega | (simp; omega)) ?_)
          | refine Quo.r (And.intro (by omega) ?_)
          | refine Both.mk (fun e => absurd (hq.symm.trans e) (by decide)) ?_
          | refine Both.mk ?_ (fun e => absurd (hq.symm.trans e) (by decide))
          | refine Both.mk ?_ ?_
          | refine Exists.intro _ (And.intro rfl ?_)
          | refine optT_use (by assumption) ?_
          | refine trow_use (by assumption) ?_
          | refine trow_in (fun _ _ => ?_)
          | refine trow_nil ?_
          | refine fun _ => ?_))
        | exact rfl)
      · refine ⟨(), [0, 1, 2, 3, 4, 5], trivial, ?_⟩
        repeat' (first
          | ((conv => whnf); (first
            | refine brK_dec (fun _ => ?_) (fun _ => ?_)
            | refine brK_ndec (fun _ => ?_) (fun _ => ?_)
            | refine brK_not (fun _ => ?_) (fun _ => ?_)
            | refine brK_in (fun _ => ?_) (fun _ => ?_)
            | refine And.intro (by first | exact rfl | exact ⟨_, rfl, rfl⟩ | exact ⟨rfl, rfl, rfl⟩ | exact of_decide_eq_true rfl | exact trivial | assumption | omega | (show (_ ≤ _ ∧ _ ≤ _); omega) | (simp; omega) | exact ⟨by first | omega | (simp; omega), _, rfl, rfl⟩) ?_
            | refine Quo.l (And.intro (by first | exact rfl | assumption | omega | (simp; omega)) ?_)
            | refine Quo.r (And.intro (by omega) ?_)
            | refine Both.mk ?_ ?_
            | refine Exists.intro _ (And.intro rfl ?_)
            | refine optT_use (by assumption) ?_
            | refine trow_use (by assumption) ?_
            | refine trow_in (fun _ _ => ?_)
            | refine trow_nil ?_
            | refine fun _ => ?_))
          | exact rfl)
      · refine ⟨(), [0, 1, 2, 3, 4, 5], trivial, ?_⟩
        repeat' (first
          | ((conv => whnf); (first
            | refine brK_dec (fun _ => ?_) (fun _ => ?_)
            | refine brK_ndec (fun _ => ?_) (fun _ => ?_)
            | refine brK_not (fun _ => ?_) (fun _ => ?_)
            | refine brK_in (fun _ => ?_) (fun _ => ?_)
            | refine And.intro (by first | exact rfl | exact ⟨_, rfl, rfl⟩ | exact ⟨rfl, rfl, rfl⟩ | exact of_decide_eq_true rfl | exact trivial | assumption | omega | (show (_ ≤ _ ∧ _ ≤ _); omega) | (simp; omega) | exact ⟨by first | omega | (simp; omega), _, rfl, rfl⟩) ?_
            | refine Quo.l (And.intro (by first | exact rfl | assumption | omega | (simp; omega)) ?_)
            | refine Quo.r (And.intro (by omega) ?_)
            | refine Both.mk ?_ ?_
            | refine Exists.intro _ (And.intro rfl ?_)
            | refine optT_use (by assumption) ?_
            | refine trow_use (by assumption) ?_
            | refine trow_in (fun _ _ => ?_)
            | refine trow_nil ?_
            | refine fun _ => ?_))
          | exact rfl)
      · refine ⟨(), [0, 1, 2, 3, 4, 5], trivial, ?_⟩
        repeat' (first
          | ((conv => whnf); (first
            | refine brK_dec (fun _ => ?_) (fun _ => ?_)
            | refine brK_ndec (fun _ => ?_) (fun _ => ?_)
            | refine brK_not (fun _ => ?_) (fun _ => ?_)
            | refine brK_in (fun _ => ?_) (fun _ => ?_)
            | refine And.intro (by first | exact rfl | exact ⟨_, rfl, rfl⟩ | exact ⟨rfl, rfl, rfl⟩ | exact of_decide_eq_true rfl | exact trivial | assumption | omega | (show (_ ≤ _ ∧ _ ≤ _); omega) | (simp; omega) | exact ⟨by first | omega | (simp; omega), _, rfl, rfl⟩) ?_
            | refine Quo.l (And.intro (by first | exact rfl | assumption | omega | (simp; omega)) ?_)
            | refine Quo.r (And.intro (by omega) ?_)
            | refine Both.mk ?_ ?_
            | refine Exists.intro _ (And.intro rfl ?_)
            | refine optT_use (by assumption) ?_
            | refine trow_use (by assumption) ?_
            | refine trow_in (fun _ _ => ?_)
            | refine trow_nil ?_
            | refine fun _ => ?_))
          | exact rfl)
    rintro - -
    refine cuts_step (by rfl) (fun _ : Unit => mkS 104 [(2, .ptr 0 0), (3, .ptr 1 0), (4, B false), (6, .ptr 2 0), (7, B false), (9, .ptr 3 0), (12, I 1)] [.cells [I f, .sl 3 (l.map VtD.row)], .cells [I r, I a, I d], .cells [I 0, .val (.slice none 0 0)], .cells [I 0, .val (.slice none 0 0)]] Fs) (fun _ => True) ?_ ?_
    · repeat' (first
        | ((conv => whnf); (first
          | refine draw_plan (id := 5) [] [] (.take 0 (.take 2 (.two 1 (.two 3 (.two 4 (.take 5 (.take 6 (.take 7 (.run 8 (.run 9 (.take 10 .done)))))) 8 (.run 4 (.take 5 (.take 6 (.take 7 (.run 9 (.take 10 .done))))))) 8 (.run 3 (.run 4 (.take 5 (.take 6 (.take 7 (.run 9 (.take 10 .done)))))))) 8 (.run 1 (.run 3 (.run 4 (.take 5 (.take 6 (.take 7 (.run 9 (.take 10 .done))))))))))) (by kernel_rfl) (by kernel_rfl) ?_
          | refine draw_plan (id := 7) [] [] (.take 0 (.take 1 (.two 2 (.two 3 (.take 4 (.take 5 (.take 6 (.run 7 (.run 8 (.take 9 .done)))))) 7 (.run 3 (.take 4 (.take 5 (.take 6 (.run 8 (.take 9 .done))))))) 7 (.run 2 (.run 3 (.take 4 (.take 5 (.take 6 (.run 8 (.take 9 .done)))))))))) (by kernel_rfl) (by kernel_rfl) ?_
          | refine draw_plan (id := 10) [] [] (.take 0 (.take 1 (.run 2 (.run 3 (.take 4 .done))))) (by kernel_rfl) (by kernel_rfl) ?_
          | refine draw_plan (id := 24) [] [] (.take 0 (.take 2 (.two 1 (.two 3 (.two 4 (.take 5 (.take 6 (.take 7 (.run 8 (.run 9 (.take 10 .done)))))) 8 (.run 4 (.take 5 (.take 6 (.take 7 (.run 9 (.take 10 .done))))))) 8 (.run 3 (.run 4 (.take 5 (.take 6 (.take 7 (.run 9 (.take 10 .done)))))))) 8 (.run 1 (.run 3 (.run 4 (.take 5 (.take 6 (.take 7 (.run 9 (.take 10 .done))))))))))) (by kernel_rfl) (by kernel_rfl) ?_
          | refine brK_dec (fun _ => ?_) (fun _ => ?_)
          | refine brK_ndec (fun _ => ?_) (fun _ => ?_)
          | refine brK_not (fun _ => ?_) (fun _ => ?_)
          | refine brK_in (fun _ => ?_) (fun _ => ?_)
          | refine And.intro (by first | exact rfl | exact ⟨_, rfl, rfl⟩ | exact ⟨rfl, rfl, rfl⟩ | exact of_decide_eq_true rfl | exact trivial | assumption | omega | (show (_ ≤ _ ∧ _ ≤ _); omega) | (simp; omega) | exact ⟨by first | omega | (simp; omega), _, rfl, rfl⟩) ?_
          | refine Quo.l (And.intro (by first | exact rfl | assumption | omega | (simp; omega)) ?_)
          | refine Quo.r (And.intro (by omega) ?_)
          | refine Both.mk (fun e => absurd (hq.symm.trans e) (by decide)) ?_
          | refine Both.mk ?_ (fun e => absurd (hq.symm.trans e) (by decide))
          | refine Both.mk ?_ ?_
          | refine Exists.intro _ (And.intro rfl ?_)
          | refine optT_use (by assumption) ?_
          | refine trow_use (by assumption) ?_
          | refine trow_in (fun _ _ => ?_)
          | refine trow_nil ?_
          | refine fun _ => ?_))
        | exact rfl)
      (conv => whnf)
      refine Or.inl ?_
      repeat' (first
        | ((conv => whnf); (first
          | refine draw_plan (id := 5) [] [] (.take 0 (.take 2 (.two 1 (.two 3 (.two 4 (.take 5 (.take 6 (.take 7 (.run 8 (.run 9 (.take 10 .done)))))) 8 (.run 4 (.take 5 (.take 6 (.take 7 (.run 9 (.take 10 .done))))))) 8 (.run 3 (.run 4 (.take 5 (.take 6 (.take 7 (.run 9 (.take 10 .done)))))))) 8 (.run 1 (.run 3 (.run 4 (.take 5 (.take 6 (.take 7 (.run 9 (.take 10 .done))))))))))) (by kernel_rfl) (by kernel_rfl) ?_
          | refine draw_plan (id := 7) [] [] (.take 0 (.take 1 (.two 2 (.two 3 (.take 4 (.take 5 (.take 6 (.run 7 (.run 8 (.take 9 .done)))))) 7 (.run 3 (.take 4 (.take 5 (.take 6 (.run 8 (.take 9 .done))))))) 7 (.run 2 (.run 3 (.take 4 (.take 5 (.take 6 (.run 8 (.take 9 .done)))))))))) (by kernel_rfl) (by kernel_rfl) ?_
          | refine draw_plan (id := 10) [] [] (.take 0 (.take 1 (.run 2 (.run 3 (.take 4 .done))))) (by kernel_rfl) (by kernel_rfl) ?_
          | refine draw_plan (id := 24) [] [] (.take 0 (.take 2 (.two 1 (.two 3 (.two 4 (.take 5 (.take 6 (.take 7 (.run 8 (.run 9 (.take 10 .done)))))) 8 (.run 4 (.take 5 (.take 6 (.take 7 (.run 9 (.take 10 .done))))))) 8 (.run 3 (.run 4 (.take 5 (.take 6 (.take 7 (.run 9 (.take 10 .done)))))))) 8 (.run 1 (.run 3 (.run 4 (.take 5 (.take 6 (.take 7 (.run 9 (.take 10 .done))))))))))) (by kernel_rfl) (by kernel_rfl) ?_
          | refine brK_dec (fun _ => ?_) (fun _ => ?_)
          | refine brK_ndec (fun _ => ?_) (fun _ => ?_)
          | refine brK_not (fun _ => ?_) (fun _ => ?_)
          | refine brK_in (fun _ => ?_) (fun _ => ?_)
          | refine And.intro (by first | exact rfl | exact (by first | (rw [List.length_map, List.length_map, mkT_len]; done) | exact free_rows _ | (rw [mkT_len]; done) | (rw [mkT_len]; omega)) | exact ⟨_, rfl, rfl⟩ | exact ⟨rfl, rfl, rfl⟩ | exact of_decide_eq_true rfl | exact trivial | assumption | omega | (show (_ ≤ _ ∧ _ ≤ _); omega) | (simp; omega) | exact ⟨by first | omega | (simp; omega), _, rfl, rfl⟩) ?_
          | refine Quo.l (And.intro (by first | exact rfl | exact (by first | (rw [List.length_map, List.length_map, mkT_len]; done) | exact free_rows _ | (rw [mkT_len]; done) | (rw [mkT_len]; omega)) | assumption | omega | (simp; omega)) ?_)
          | refine Quo.r (And.intro (by omega) ?_)
          | refine Both.mk (fun e => absurd (hq.symm.trans e) (by decide)) ?_
          | refine Both.mk ?_ (fun e => absurd (hq.symm.trans e) (by decide))
          | refine Both.mk ?_ ?_
          | refine Exists.intro _ (And.intro rfl ?_)
          | refine optT_use (by assumption) ?_
          | refine trow_use (by assumption) ?_
          | refine trow_in (fun _ _ => ?_)
          | refine trow_nil ?_
          | refine fun _ => ?_))
        | exact rfl)
      (conv => whnf)
      refine Or.inr ?_
      repeat' (first
        | ((conv => whnf); (first
          | refine draw_plan (id := 5) [] [] (.take 0 (.take 2 (.two 1 (.two 3 (.two 4 (.take 5 (.take 6 (.take 7 (.run 8 (.run 9 (.take 10 .done)))))) 8 (.run 4 (.take 5 (.take 6 (.take 7 (.run 9 (.take 10 .done))))))) 8 (.run 3 (.run 4 (.take 5 (.take 6 (.take 7 (.run 9 (.take 10 .done)))))))) 8 (.run 1 (.run 3 (.run 4 (.take 5 (.take 6 (.take 7 (.run 9 (.take 10 .done))))))))))) (by kernel_rfl) (by kernel_rfl) ?_
          | refine draw_plan (id := 7) [] [] (.take 0 (.take 1 (.two 2 (.two 3 (.take 4 (.take 5 (.take 6 (.run 7 (.run 8 (.take 9 .done)))))) 7 (.run 3 (.take 4 (.take 5 (.take 6 (.run 8 (.take 9 .done))))))) 7 (.run 2 (.run 3 (.take 4 (.take 5 (.take 6 (.run 8 (.take 9 .done)))))))))) (by kernel_rfl) (by kernel_rfl) ?_
          | refine draw_plan (id := 10) [] [] (.take 0 (.take 1 (.run 2 (.run 3 (.take 4 .done))))) (by kernel_rfl) (by kernel_rfl) ?_
          | refine draw_plan (id := 24) [] [] (.take 0 (.take 2 (.two 1 (.two 3 (.two 4 (.take 5 (.take 6 (.take 7 (.run 8 (.run 9 (.take 10 .done)))))) 8 (.run 4 (.take 5 (.take 6 (.take 7 (.run 9 (.take 10 .done))))))) 8 (.run 3 (.run 4 (.take 5 (.take 6 (.take 7 (.run 9 (.take 10 .done)))))))) 8 (.run 1 (.run 3 (.run 4 (.take 5 (.take 6 (.take 7 (.run 9 (.take 10 .done))))))))))) (by kernel_rfl) (by kernel_rfl) ?_
          | refine brK_dec (fun _ => ?_) (fun _ => ?_)
          | refine brK_ndec (fun _ => ?_) (fun _ => ?_)
          | refine brK_not (fun _ => ?_) (fun _ => ?_)
          | refine brK_in (fun _ => ?_) (fun _ => ?_)
          | refine And.intro (by first | exact rfl | exact (by first | (rw [List.length_map, List.length_map, mkT_len]; done) | exact free_rows _ | (rw [mkT_len]; done) | (rw [mkT_len]; omega)) | exact ⟨_, rfl, rfl⟩ | exact ⟨rfl, rfl, rfl⟩ | exact of_decide_eq_true rfl | exact trivial | assumption | omega | (show (_ ≤ _ ∧ _ ≤ _); omega) | (simp; omega) | exact ⟨by first | omega | (simp; omega), _, rfl, rfl⟩) ?_
          | refine Quo.l (And.intro (by first | exact rfl | exact (by first | (rw [List.length_map, List.length_map, mkT_len]; done) | exact free_rows _ | (rw [mkT_len]; done) | (rw [mkT_len]; omega)) | assumption | omega | (simp; omega)) ?_)
          | refine Quo.r (And.intro (by omega) ?_)
          | refine Both.mk (fun e => absurd (hq.symm.trans e) (by decide)) ?_
          | refine Both.mk ?_ (fun e => absurd (hq.symm.trans e) (by decide))
          | refine Both.mk ?_ ?_
          | refine Exists.intro _ (And.intro rfl ?_)
          | refine optT_use (by assumption) ?_
          | refine trow_use (by assumption) ?_
          | refine trow_in (fun _ _ => ?_)
          | refine trow_nil ?_
          | refine fun _ => ?_))
        | exact rfl)
      refine ⟨(), [0, 1, 2, 5], trivial, ?_⟩
      repeat' (first
        | ((conv => whnf); (first
          | refine brK_dec (fun _ => ?_) (fun _ => ?_)
          | refine brK_ndec (fun _ => ?_) (fun _ => ?_)
          | refine brK_not (fun _ => ?_) (fun _ => ?_)
          | refine brK_in (fun _ => ?_) (fun _ => ?_)
          | refine And.intro (by first | exact rfl | exact ⟨_, rfl, rfl⟩ | exact ⟨rfl, rfl, rfl⟩ | exact of_decide_eq_true rfl | exact trivial | assumption | omega | (show (_ ≤ _ ∧ _ ≤ _); omega) | (simp; omega) | exact ⟨by first | omega | (simp; omega), _, rfl, rfl⟩) ?_
          | refine Quo.l (And.intro (by first | exact rfl | assumption | omega | (simp; omega)) ?_)
          | refine Quo.r (And.intro (by omega) ?_)
          | refine Both.mk ?_ ?_
          | refine Exists.intro _ (And.intro rfl ?_)
          | refine optT_use (by assumption) ?_
          | refine trow_use (by assumption) ?_
          | refine trow_in (fun _ _ => ?_)
          | refine trow_nil ?_
          | refine fun _ => ?_))
        | exact rfl)
    rintro - -
    repeat' (first
      | ((conv => whnf); (first
        | refine draw_plan (id := 5) [] [] (.take 0 (.take 2 (.two 1 (.two 3 (.two 4 (.take 5 (.take 6 (.take 7 (.run 8 (.run 9 (.take 10 .done)))))) 8 (.run 4 (.take 5 (.take 6 (.take 7 (.run 9 (.take 10 .done))))))) 8 (.run 3 (.run 4 (.take 5 (.take 6 (.take 7 (.run 9 (.take 10 .done)))))))) 8 (.run 1 (.run 3 (.run 4 (.take 5 (.take 6 (.take 7 (.run 9 (.take 10 .done))))))))))) (by kernel_rfl) (by kernel_rfl) ?_
        | refine draw_plan (id := 7) [] [] (.take 0 (.take 1 (.two 2 (.two 3 (.take 4 (.take 5 (.take 6 (.run 7 (.run 8 (.take 9 .done)))))) 7 (.run 3 (.take 4 (.take 5 (.take 6 (.run 8 (.take 9 .done))))))) 7 (.run 2 (.run 3 (.take 4 (.take 5 (.take 6 (.run 8 (.take 9 .done)))))))))) (by kernel_rfl) (by kernel_rfl) ?_
        | refine draw_plan (id := 10) [] [] (.take 0 (.take 1 (.run 2 (.run 3 (.take 4 .done))))) (by kernel_rfl) (by kernel_rfl) ?_
        | refine draw_plan (id := 24) [] [] (.take 0 (.take 2 (.two 1 (.two 3 (.two 4 (.take 5 (.take 6 (.take 7 (.run 8 (.run 9 (.take 10 .done)))))) 8 (.run 4 (.take 5 (.take 6 (.take 7 (.run 9 (.take 10 .done))))))) 8 (.run 3 (.run 4 (.take 5 (.take 6 (.take 7 (.run 9 (.take 10 .done)))))))) 8 (.run 1 (.run 3 (.run 4 (.take 5 (.take 6 (.take 7 (.run 9 (.take 10 .done))))))))))) (by kernel_rfl) (by kernel_rfl) ?_
        | refine brK_dec (fun _ => ?_) (fun _ => ?_)
        | refine brK_ndec (fun _ => ?_) (fun _ => ?_)
        | refine brK_not (fun _ => ?_) (fun _ => ?_)
        | refine brK_in (fun _ => ?_) (fun _ => ?_)
        | refine And.intro (by first | exact rfl | exact (by first | (rw [List.length_map, List.length_map, mkT_len]; done) | exact free_rows _ | (rw [mkT_len]; done) | (rw [mkT_len]; omega)) | exact ⟨_, rfl, rfl⟩ | exact ⟨rfl, rfl, rfl⟩ | exact of_decide_eq_true rfl | exact trivial | assumption | omega | (show (_ ≤ _ ∧ _ ≤ _); omega) | (simp; omega) | exact ⟨by first | omega | (simp; omega), _, rfl, rfl⟩) ?_
        | refine Quo.l (And.intro (by first | exact rfl | exact (by first | (rw [List.length_map, List.length_map, mkT_len]; done) | exact free_rows _ | (rw [mkT_len]; done) | (rw [mkT_len]; omega)) | assumption | omega | (simp; omega)) ?_)
        | refine Quo.r (And.intro (by omega) ?_)
        | refine Both.mk (fun e => absurd (hq.symm.trans e) (by decide)) ?_
        | refine Both.mk ?_ (fun e => absurd (hq.symm.trans e) (by decide))
        | refine Both.mk ?_ ?_
        | refine Exists.intro _ (And.intro rfl ?_)
        | refine optT_use (by assumption) ?_
        | refine trow_use (by assumption) ?_
        | refine trow_in (fun _ _ => ?_)
        | refine trow_nil ?_
        | refine fun _ => ?_))
      | exact rfl)
    all_goals first
      | exact h
      | (rename_i e; exact absurd rfl e)
end Go.Proofs.Ytalbgcpfekmfoaa
