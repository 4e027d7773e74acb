/-
The law on the making of links: its contract.
No conditions.
-/
import Derived.Test.YtlhbdhccddadaaaDoorLmB
import Derived.Test.YtlhbdhccddadaaaDoorLxC
import Derived.Test.YtlhbdhccddadaaaDoorVcCuts
namespace Go.Proofs.YtlhbdhccddadaaaDoor
open Go Go.Vc
set_option maxHeartbeats 4000000
set_option maxRecDepth 10000
def c_laws_FnExactLinkMake : Con := ⟨0, 0, false, fun xs hs Fs K => match xs with
  | [.agg [.val (.int .i64 _), .ints c, .ints k, .val (.int .i64 _)], .agg [.val (.int .i64 _), .ints c2, .ints k2, .val (.int .i64 _)], .ints s] =>
    hs = [] ∧ hasTab Fs ∧ c.length ≤ 9223372036854775807 ∧ k.length ≤ 9223372036854775807 ∧ c2.length ≤ 9223372036854775807 ∧ k2.length ≤ 9223372036854775807 ∧ s.length ≤ 9223372036854775807 ∧ K (B true) [] []
  | _ => False⟩
theorem abs_link {n : Int} {c k : List Int} {r d : Int} {s : List Int} {m : Int} (h : ¬ ((n = n ∧ c = c ∧ k = k ∧ r = r) ∧ (d = d ∧ s = s ∧ m = m))) : False := h ⟨⟨rfl, rfl, rfl, rfl⟩, rfl, rfl, rfl⟩
theorem abs_ep {n : Int} {c k : List Int} {r : Int} (h : ¬ (n = n ∧ c = c ∧ k = k ∧ r = r)) : False := h ⟨rfl, rfl, rfl, rfl⟩
theorem k_laws_FnExactLinkMake : Keeps' Tryd.prog 3 c_laws_FnExactLinkMake := by
  refine keeps_of_cuts mix TyT_ok (cok_cons k_laws_szEpoch Tryd.func6 rfl rfl (cok_cons k_laws_toEpoch Tryd.func8 rfl rfl (cok_cons k_laws_toIntS Tryd.func9 rfl rfl (cok_cons k_spec_LinkMake Tryd.func7 rfl rfl (cok_cons k_impl_LinkMake Tryd.func10 rfl rfl (cok_cons (keeps_nil k_laws_eqLink) Tryd.func11 rfl rfl (cok_cons k_laws_eqEpoch Tryd.func12 rfl rfl (cok_cons k_laws_eqIntS Tryd.func13 rfl rfl (cok_cons k_laws_markEpoch Tryd.func14 rfl rfl (cok_cons k_laws_markIntS Tryd.func15 rfl rfl (cok_cons (keeps_alt k_laws_markLink k_laws_markLink_n (by decide) rfl) Tryd.func16 rfl rfl (cok_cons (keeps_nil k_laws_heldLink) Tryd.func17 rfl rfl cok_nil)))))))))))) Tryd.func3 rfl rfl rfl [11, 23, 29, 31, 37, 40] ?_
  intro aargs hs Fs K h
  simp only [c_laws_FnExactLinkMake] at h
  split at h
  case h_2 => exact h.elim
  rename_i n c k r n2 c2 k2 r2 s
  obtain ⟨rfl, hT, l1, l2, l3, l4, l5, h⟩ := h
  have hsl := sgnL_len (sgnS (digE n2 c2 k2 r2) s) c.length
  refine cuts_step (by rfl) (fun g : Bool => match g with
    | true => mkS 140 [(2, .ints s), (3, .ptr 0 0), (4, .ptr 1 0), (6, B false), (8, .ptr 2 0), (9, B true)] [.cells [I n, .ints c, .ints k, I r], .cells [I n2, .ints c2, .ints k2, I r2], .cells [I n2, .ints c2, .ints k2, I r2, I (digE n2 c2 k2 r2), .ints (sgnL (sgnS (digE n2 c2 k2 r2) s) c.length), I ((sgnS (digE n2 c2 k2 r2) s).sum % 997)]] Fs
    | false => mkS 140 [(2, .ints s), (3, .ptr 0 0), (4, .ptr 1 0), (6, B false), (8, .ptr 2 0), (9, B false)] [.cells [I n, .ints c, .ints k, I r], .cells [I n2, .ints c2, .ints k2, I r2], .cells [I 0, .val (.slice none 0 0), .val (.slice none 0 0), I 0, I 0, .val (.slice none 0 0), I 0]] Fs)
    (fun g => lmkV n c k r n2 c2 k2 r2 s = g ∧ c.length ≤ 1048576 ∧ k.length ≤ 1048576 ∧ c2.length ≤ 1048576 ∧ k2.length ≤ 1048576 ∧ s.length ≤ 1048576) ?_ ?_
  · repeat' (first
      | ((conv => whnf); (first
        | refine draw_plan (id := 10) [] [] (.take 0 (.take 2 (.take 4 (.two 1 (.two 3 (.two 5 (.two 6 (.take 7 (.take 8 (.take 9 (.run 10 (.run 11 (.take 12 .done)))))) 10 (.run 6 (.take 7 (.take 8 (.take 9 (.run 11 (.take 12 .done))))))) 10 (.run 5 (.run 6 (.take 7 (.take 8 (.take 9 (.run 11 (.take 12 .done)))))))) 10 (.run 3 (.run 5 (.run 6 (.take 7 (.take 8 (.take 9 (.run 11 (.take 12 .done))))))))) 10 (.run 1 (.run 3 (.run 5 (.run 6 (.take 7 (.take 8 (.take 9 (.run 11 (.take 12 .done))))))))))))) (by kernel_rfl) (by kernel_rfl) ?_
        | refine draw_plan (id := 17) [] [] (.take 0 (.take 1 (.run 2 (.run 3 (.take 4 .done))))) (by kernel_rfl) (by kernel_rfl) ?_
        | refine draw_plan (id := 19) [] [] (.take 0 (.take 1 (.run 2 (.run 3 (.take 4 .done))))) (by kernel_rfl) (by kernel_rfl) ?_
        | refine draw_plan (id := 37) [] [] (.take 0 (.take 2 (.take 4 (.two 1 (.two 3 (.two 5 (.two 6 (.take 7 (.take 8 (.take 9 (.run 10 (.run 11 (.take 12 .done)))))) 10 (.run 6 (.take 7 (.take 8 (.take 9 (.run 11 (.take 12 .done))))))) 10 (.run 5 (.run 6 (.take 7 (.take 8 (.take 9 (.run 11 (.take 12 .done)))))))) 10 (.run 3 (.run 5 (.run 6 (.take 7 (.take 8 (.take 9 (.run 11 (.take 12 .done))))))))) 10 (.run 1 (.run 3 (.run 5 (.run 6 (.take 7 (.take 8 (.take 9 (.run 11 (.take 12 .done))))))))))))) (by kernel_rfl) (by kernel_rfl) ?_
        | refine brK_dec (fun _ => ?_) (fun _ => ?_)
        | refine brK_ndec (fun _ => ?_) (fun _ => ?_)
        | refine brK_not (fun _ => ?_) (fun _ => ?_)
        | refine brK_in (fun _ => ?_) (fun _ => ?_)
        | refine And.intro (by first | exact rfl | exact (tab_app hT) | exact ⟨_, rfl, rfl⟩ | exact ⟨rfl, rfl, rfl⟩ | exact of_decide_eq_true rfl | exact trivial | assumption | omega | (show (_ ≤ _ ∧ _ ≤ _); omega) | (simp; omega) | exact ⟨by first | omega | (simp; omega), _, rfl, rfl⟩) ?_
        | refine Both.mk ?_ ?_
        | refine Exists.intro _ (And.intro rfl ?_)
        | refine fun _ => ?_))
      | exact rfl)
    · exact h
    · exact h
    rename_i h0 h1
    obtain ⟨g1, g2⟩ := szE_le (by omega) h1
    have g3 := szE_top h1
    by_cases h2 : szE c2 k2 (szE c k 1048576) < 0
    · repeat' (first
        | ((conv => whnf); (first
          | refine draw_plan (id := 10) [] [] (.take 0 (.take 2 (.take 4 (.two 1 (.two 3 (.two 5 (.two 6 (.take 7 (.take 8 (.take 9 (.run 10 (.run 11 (.take 12 .done)))))) 10 (.run 6 (.take 7 (.take 8 (.take 9 (.run 11 (.take 12 .done))))))) 10 (.run 5 (.run 6 (.take 7 (.take 8 (.take 9 (.run 11 (.take 12 .done)))))))) 10 (.run 3 (.run 5 (.run 6 (.take 7 (.take 8 (.take 9 (.run 11 (.take 12 .done))))))))) 10 (.run 1 (.run 3 (.run 5 (.run 6 (.take 7 (.take 8 (.take 9 (.run 11 (.take 12 .done))))))))))))) (by kernel_rfl) (by kernel_rfl) ?_
          | refine draw_plan (id := 17) [] [] (.take 0 (.take 1 (.run 2 (.run 3 (.take 4 .done))))) (by kernel_rfl) (by kernel_rfl) ?_
          | refine draw_plan (id := 19) [] [] (.take 0 (.take 1 (.run 2 (.run 3 (.take 4 .done))))) (by kernel_rfl) (by kernel_rfl) ?_
          | refine draw_plan (id := 37) [] [] (.take 0 (.take 2 (.take 4 (.two 1 (.two 3 (.two 5 (.two 6 (.take 7 (.take 8 (.take 9 (.run 10 (.run 11 (.take 12 .done)))))) 10 (.run 6 (.take 7 (.take 8 (.take 9 (.run 11 (.take 12 .done))))))) 10 (.run 5 (.run 6 (.take 7 (.take 8 (.take 9 (.run 11 (.take 12 .done)))))))) 10 (.run 3 (.run 5 (.run 6 (.take 7 (.take 8 (.take 9 (.run 11 (.take 12 .done))))))))) 10 (.run 1 (.run 3 (.run 5 (.run 6 (.take 7 (.take 8 (.take 9 (.run 11 (.take 12 .done))))))))))))) (by kernel_rfl) (by kernel_rfl) ?_
          | refine brK_dec (fun _ => ?_) (fun _ => ?_)
          | refine brK_ndec (fun _ => ?_) (fun _ => ?_)
          | refine brK_not (fun _ => ?_) (fun _ => ?_)
          | refine brK_in (fun _ => ?_) (fun _ => ?_)
          | refine And.intro (by first | exact rfl | exact (tab_app hT) | exact ⟨_, rfl, rfl⟩ | exact ⟨rfl, rfl, rfl⟩ | exact of_decide_eq_true rfl | exact trivial | assumption | omega | (show (_ ≤ _ ∧ _ ≤ _); omega) | (simp; omega) | exact ⟨by first | omega | (simp; omega), _, rfl, rfl⟩) ?_
          | refine Both.mk ?_ ?_
          | refine Exists.intro _ (And.intro rfl ?_)
          | refine fun _ => ?_))
        | exact rfl)
      all_goals first
        | exact h
        | (exfalso; exact absurd h2 (by assumption))
    obtain ⟨g4, g5⟩ := szE_le (by omega) h2
    rcases Bool.eq_false_or_eq_true (lmkV n c k r n2 c2 k2 r2 s) with hq | hq
    · repeat' (first
        | ((conv => whnf); (first
          | refine draw_plan (id := 10) [] [] (.take 0 (.take 2 (.take 4 (.two 1 (.two 3 (.two 5 (.two 6 (.take 7 (.take 8 (.take 9 (.run 10 (.run 11 (.take 12 .done)))))) 10 (.run 6 (.take 7 (.take 8 (.take 9 (.run 11 (.take 12 .done))))))) 10 (.run 5 (.run 6 (.take 7 (.take 8 (.take 9 (.run 11 (.take 12 .done)))))))) 10 (.run 3 (.run 5 (.run 6 (.take 7 (.take 8 (.take 9 (.run 11 (.take 12 .done))))))))) 10 (.run 1 (.run 3 (.run 5 (.run 6 (.take 7 (.take 8 (.take 9 (.run 11 (.take 12 .done))))))))))))) (by kernel_rfl) (by kernel_rfl) ?_
          | refine draw_plan (id := 17) [] [] (.take 0 (.take 1 (.run 2 (.run 3 (.take 4 .done))))) (by kernel_rfl) (by kernel_rfl) ?_
          | refine draw_plan (id := 19) [] [] (.take 0 (.take 1 (.run 2 (.run 3 (.take 4 .done))))) (by kernel_rfl) (by kernel_rfl) ?_
          | refine draw_plan (id := 37) [] [] (.take 0 (.take 2 (.take 4 (.two 1 (.two 3 (.two 5 (.two 6 (.take 7 (.take 8 (.take 9 (.run 10 (.run 11 (.take 12 .done)))))) 10 (.run 6 (.take 7 (.take 8 (.take 9 (.run 11 (.take 12 .done))))))) 10 (.run 5 (.run 6 (.take 7 (.take 8 (.take 9 (.run 11 (.take 12 .done)))))))) 10 (.run 3 (.run 5 (.run 6 (.take 7 (.take 8 (.take 9 (.run 11 (.take 12 .done))))))))) 10 (.run 1 (.run 3 (.run 5 (.run 6 (.take 7 (.take 8 (.take 9 (.run 11 (.take 12 .done))))))))))))) (by kernel_rfl) (by kernel_rfl) ?_
          | refine brK_dec (fun _ => ?_) (fun _ => ?_)
          | refine brK_ndec (fun _ => ?_) (fun _ => ?_)
          | refine brK_not (fun _ => ?_) (fun _ => ?_)
          | refine brK_in (fun _ => ?_) (fun _ => ?_)
          | refine And.intro (by first | exact rfl | exact (tab_app hT) | exact ⟨_, rfl, rfl⟩ | exact ⟨rfl, rfl, rfl⟩ | exact of_decide_eq_true rfl | exact trivial | assumption | omega | (show (_ ≤ _ ∧ _ ≤ _); omega) | (simp; omega) | exact ⟨by first | omega | (simp; omega), _, rfl, rfl⟩) ?_
          | refine Both.mk (fun e => absurd (hq.symm.trans e) (by decide)) ?_
          | refine Both.mk ?_ (fun e => absurd (hq.symm.trans e) (by decide))
          | refine Both.mk ?_ ?_
          | refine Exists.intro _ (And.intro rfl ?_)
          | refine fun _ => ?_))
        | exact rfl)
      all_goals first
        | (exfalso; exact h2 (by assumption))
        | (conv => whnf)
      all_goals first
        | refine ⟨true, [0, 1, 10], ⟨hq, g1, g2, g4, g5, by omega⟩, ?_⟩
          repeat' (first
            | ((conv => whnf); (first
              | refine brK_dec (fun _ => ?_) (fun _ => ?_)
              | refine brK_ndec (fun _ => ?_) (fun _ => ?_)
              | refine brK_not (fun _ => ?_) (fun _ => ?_)
              | refine brK_in (fun _ => ?_) (fun _ => ?_)
              | refine And.intro (by first | exact rfl | exact ⟨_, rfl, rfl⟩ | exact ⟨rfl, rfl, rfl⟩ | exact of_decide_eq_true rfl | exact trivial | assumption | omega | (show (_ ≤ _ ∧ _ ≤ _); omega) | (simp; omega) | exact ⟨by first | omega | (simp; omega), _, rfl, rfl⟩) ?_
              | refine Both.mk ?_ ?_
              | refine Exists.intro _ (And.intro rfl ?_)
              | refine fun _ => ?_))
            | exact rfl)
          done
        | refine ⟨true, [0, 1, 7], ⟨hq, g1, g2, g4, g5, by omega⟩, ?_⟩
          repeat' (first
            | ((conv => whnf); (first
              | refine brK_dec (fun _ => ?_) (fun _ => ?_)
              | refine brK_ndec (fun _ => ?_) (fun _ => ?_)
              | refine brK_not (fun _ => ?_) (fun _ => ?_)
              | refine brK_in (fun _ => ?_) (fun _ => ?_)
              | refine And.intro (by first | exact rfl | exact ⟨_, rfl, rfl⟩ | exact ⟨rfl, rfl, rfl⟩ | exact of_decide_eq_true rfl | exact trivial | assumption | omega | (show (_ ≤ _ ∧ _ ≤ _); omega) | (simp; omega) | exact ⟨by first | omega | (simp; omega), _, rfl, rfl⟩) ?_
              | refine Both.mk ?_ ?_
              | refine Exists.intro _ (And.intro rfl ?_)
              | refine fun _ => ?_))
            | exact rfl)
          done
        | refine ⟨true, [0, 1, 6], ⟨hq, g1, g2, g4, g5, by omega⟩, ?_⟩
          repeat' (first
            | ((conv => whnf); (first
              | refine brK_dec (fun _ => ?_) (fun _ => ?_)
              | refine brK_ndec (fun _ => ?_) (fun _ => ?_)
              | refine brK_not (fun _ => ?_) (fun _ => ?_)
              | refine brK_in (fun _ => ?_) (fun _ => ?_)
              | refine And.intro (by first | exact rfl | exact ⟨_, rfl, rfl⟩ | exact ⟨rfl, rfl, rfl⟩ | exact of_decide_eq_true rfl | exact trivial | assumption | omega | (show (_ ≤ _ ∧ _ ≤ _); omega) | (simp; omega) | exact ⟨by first | omega | (simp; omega), _, rfl, rfl⟩) ?_
              | refine Both.mk ?_ ?_
              | refine Exists.intro _ (And.intro rfl ?_)
              | refine fun _ => ?_))
            | exact rfl)
          done
        | refine ⟨true, [0, 1, 4], ⟨hq, g1, g2, g4, g5, by omega⟩, ?_⟩
          repeat' (first
            | ((conv => whnf); (first
              | refine brK_dec (fun _ => ?_) (fun _ => ?_)
              | refine brK_ndec (fun _ => ?_) (fun _ => ?_)
              | refine brK_not (fun _ => ?_) (fun _ => ?_)
              | refine brK_in (fun _ => ?_) (fun _ => ?_)
              | refine And.intro (by first | exact rfl | exact ⟨_, rfl, rfl⟩ | exact ⟨rfl, rfl, rfl⟩ | exact of_decide_eq_true rfl | exact trivial | assumption | omega | (show (_ ≤ _ ∧ _ ≤ _); omega) | (simp; omega) | exact ⟨by first | omega | (simp; omega), _, rfl, rfl⟩) ?_
              | refine Both.mk ?_ ?_
              | refine Exists.intro _ (And.intro rfl ?_)
              | refine fun _ => ?_))
            | exact rfl)
          done
        | refine ⟨true, [0, 1, 2], ⟨hq, g1, g2, g4, g5, by omega⟩, ?_⟩
          repeat' (first
            | ((conv => whnf); (first
              | refine brK_dec (fun _ => ?_) (fun _ => ?_)
              | refine brK_ndec (fun _ => ?_) (fun _ => ?_)
              | refine brK_not (fun _ => ?_) (fun _ => ?_)
              | refine brK_in (fun _ => ?_) (fun _ => ?_)
              | refine And.intro (by first | exact rfl | exact ⟨_, rfl, rfl⟩ | exact ⟨rfl, rfl, rfl⟩ | exact of_decide_eq_true rfl | exact trivial | assumption | omega | (show (_ ≤ _ ∧ _ ≤ _); omega) | (simp; omega) | exact ⟨by first | omega | (simp; omega), _, rfl, rfl⟩) ?_
              | refine Both.mk ?_ ?_
              | refine Exists.intro _ (And.intro rfl ?_)
              | refine fun _ => ?_))
            | exact rfl)
          done
    · repeat' (first
        | ((conv => whnf); (first
          | refine draw_plan (id := 10) [] [] (.take 0 (.take 2 (.take 4 (.two 1 (.two 3 (.two 5 (.two 6 (.take 7 (.take 8 (.take 9 (.run 10 (.run 11 (.take 12 .done)))))) 10 (.run 6 (.take 7 (.take 8 (.take 9 (.run 11 (.take 12 .done))))))) 10 (.run 5 (.run 6 (.take 7 (.take 8 (.take 9 (.run 11 (.take 12 .done)))))))) 10 (.run 3 (.run 5 (.run 6 (.take 7 (.take 8 (.take 9 (.run 11 (.take 12 .done))))))))) 10 (.run 1 (.run 3 (.run 5 (.run 6 (.take 7 (.take 8 (.take 9 (.run 11 (.take 12 .done))))))))))))) (by kernel_rfl) (by kernel_rfl) ?_
          | refine draw_plan (id := 17) [] [] (.take 0 (.take 1 (.run 2 (.run 3 (.take 4 .done))))) (by kernel_rfl) (by kernel_rfl) ?_
          | refine draw_plan (id := 19) [] [] (.take 0 (.take 1 (.run 2 (.run 3 (.take 4 .done))))) (by kernel_rfl) (by kernel_rfl) ?_
          | refine draw_plan (id := 37) [] [] (.take 0 (.take 2 (.take 4 (.two 1 (.two 3 (.two 5 (.two 6 (.take 7 (.take 8 (.take 9 (.run 10 (.run 11 (.take 12 .done)))))) 10 (.run 6 (.take 7 (.take 8 (.take 9 (.run 11 (.take 12 .done))))))) 10 (.run 5 (.run 6 (.take 7 (.take 8 (.take 9 (.run 11 (.take 12 .done)))))))) 10 (.run 3 (.run 5 (.run 6 (.take 7 (.take 8 (.take 9 (.run 11 (.take 12 .done))))))))) 10 (.run 1 (.run 3 (.run 5 (.run 6 (.take 7 (.take 8 (.take 9 (.run 11 (.take 12 .done))))))))))))) (by kernel_rfl) (by kernel_rfl) ?_
          | refine brK_dec (fun _ => ?_) (fun _ => ?_)
          | refine brK_ndec (fun _ => ?_) (fun _ => ?_)
          | refine brK_not (fun _ => ?_) (fun _ => ?_)
          | refine brK_in (fun _ => ?_) (fun _ => ?_)
          | refine And.intro (by first | exact rfl | exact (tab_app hT) | exact ⟨_, rfl, rfl⟩ | exact ⟨rfl, rfl, rfl⟩ | exact of_decide_eq_true rfl | exact trivial | assumption | omega | (show (_ ≤ _ ∧ _ ≤ _); omega) | (simp; omega) | exact ⟨by first | omega | (simp; omega), _, rfl, rfl⟩) ?_
          | refine Both.mk (fun e => absurd (hq.symm.trans e) (by decide)) ?_
          | refine Both.mk ?_ (fun e => absurd (hq.symm.trans e) (by decide))
          | refine Both.mk ?_ ?_
          | refine Exists.intro _ (And.intro rfl ?_)
          | refine fun _ => ?_))
        | exact rfl)
      all_goals first
        | (exfalso; exact h2 (by assumption))
        | (conv => whnf)
      all_goals first
        | refine ⟨false, [0, 1, 7], ⟨hq, g1, g2, g4, g5, by omega⟩, ?_⟩
          repeat' (first
            | ((conv => whnf); (first
              | refine brK_dec (fun _ => ?_) (fun _ => ?_)
              | refine brK_ndec (fun _ => ?_) (fun _ => ?_)
              | refine brK_not (fun _ => ?_) (fun _ => ?_)
              | refine brK_in (fun _ => ?_) (fun _ => ?_)
              | refine And.intro (by first | exact rfl | exact ⟨_, rfl, rfl⟩ | exact ⟨rfl, rfl, rfl⟩ | exact of_decide_eq_true rfl | exact trivial | assumption | omega | (show (_ ≤ _ ∧ _ ≤ _); omega) | (simp; omega) | exact ⟨by first | omega | (simp; omega), _, rfl, rfl⟩) ?_
              | refine Both.mk ?_ ?_
              | refine Exists.intro _ (And.intro rfl ?_)
              | refine fun _ => ?_))
            | exact rfl)
          done
        | refine ⟨false, [0, 1, 6], ⟨hq, g1, g2, g4, g5, by omega⟩, ?_⟩
          repeat' (first
            | ((conv => whnf); (first
              | refine brK_dec (fun _ => ?_) (fun _ => ?_)
              | refine brK_ndec (fun _ => ?_) (fun _ => ?_)
              | refine brK_not (fun _ => ?_) (fun _ => ?_)
              | refine brK_in (fun _ => ?_) (fun _ => ?_)
              | refine And.intro (by first | exact rfl | exact ⟨_, rfl, rfl⟩ | exact ⟨rfl, rfl, rfl⟩ | exact of_decide_eq_true rfl | exact trivial | assumption | omega | (show (_ ≤ _ ∧ _ ≤ _); omega) | (simp; omega) | exact ⟨by first | omega | (simp; omega), _, rfl, rfl⟩) ?_
              | refine Both.mk ?_ ?_
              | refine Exists.intro _ (And.intro rfl ?_)
              | refine fun _ => ?_))
            | exact rfl)
          done
        | refine ⟨false, [0, 1, 4], ⟨hq, g1, g2, g4, g5, by omega⟩, ?_⟩
          repeat' (first
            | ((conv => whnf); (first
              | refine brK_dec (fun _ => ?_) (fun _ => ?_)
              | refine brK_ndec (fun _ => ?_) (fun _ => ?_)
              | refine brK_not (fun _ => ?_) (fun _ => ?_)
              | refine brK_in (fun _ => ?_) (fun _ => ?_)
              | refine And.intro (by first | exact rfl | exact ⟨_, rfl, rfl⟩ | exact ⟨rfl, rfl, rfl⟩ | exact of_decide_eq_true rfl | exact trivial | assumption | omega | (show (_ ≤ _ ∧ _ ≤ _); omega) | (simp; omega) | exact ⟨by first | omega | (simp; omega), _, rfl, rfl⟩) ?_
              | refine Both.mk ?_ ?_
              | refine Exists.intro _ (And.intro rfl ?_)
              | refine fun _ => ?_))
            | exact rfl)
          done
        | refine ⟨false, [0, 1, 2], ⟨hq, g1, g2, g4, g5, by omega⟩, ?_⟩
          repeat' (first
            | ((conv => whnf); (first
              | refine brK_dec (fun _ => ?_) (fun _ => ?_)
              | refine brK_ndec (fun _ => ?_) (fun _ => ?_)
              | refine brK_not (fun _ => ?_) (fun _ => ?_)
              | refine brK_in (fun _ => ?_) (fun _ => ?_)
              | refine And.intro (by first | exact rfl | exact ⟨_, rfl, rfl⟩ | exact ⟨rfl, rfl, rfl⟩ | exact of_decide_eq_true rfl | exact trivial | assumption | omega | (show (_ ≤ _ ∧ _ ≤ _); omega) | (simp; omega) | exact ⟨by first | omega | (simp; omega), _, rfl, rfl⟩) ?_
              | refine Both.mk ?_ ?_
              | refine Exists.intro _ (And.intro rfl ?_)
              | refine fun _ => ?_))
            | exact rfl)
          done
  rintro g ⟨hq, g1, g2, g4, g5, g6⟩
  cases g
  · refine cuts_step (by rfl) (fun _ : Unit => mkS 140 [(2, .ints s), (3, .ptr 0 0), (4, .ptr 1 0), (6, B false), (8, .ptr 2 0), (9, B false), (10, .ptr 3 0), (11, .ptr 4 0), (12, .own 10), (13, .ptr 5 0), (14, B false)]
      [.cells [I n, .ints c, .ints k, I r], .cells [I n2, .ints c2, .ints k2, I r2], .cells [I 0, .val (.slice none 0 0), .val (.slice none 0 0), I 0, I 0, .val (.slice none 0 0), I 0], .cells [I n, .own 6, .own 7, I r], .cells [I n2, .own 8, .own 9, I r2], .cells [I 0, .val (.slice none 0 0), .val (.slice none 0 0), I 0, I 0, .val (.slice none 0 0), I 0], .iarr c, .iarr k, .iarr c2, .iarr k2, .iarr s] Fs) (fun _ => True) ?_ ?_
    · dsimp only
      repeat' (first
        | ((conv => whnf); (first
          | refine draw_plan (id := 10) [] [] (.take 0 (.take 2 (.take 4 (.two 1 (.two 3 (.two 5 (.two 6 (.take 7 (.take 8 (.take 9 (.run 10 (.run 11 (.take 12 .done)))))) 10 (.run 6 (.take 7 (.take 8 (.take 9 (.run 11 (.take 12 .done))))))) 10 (.run 5 (.run 6 (.take 7 (.take 8 (.take 9 (.run 11 (.take 12 .done)))))))) 10 (.run 3 (.run 5 (.run 6 (.take 7 (.take 8 (.take 9 (.run 11 (.take 12 .done))))))))) 10 (.run 1 (.run 3 (.run 5 (.run 6 (.take 7 (.take 8 (.take 9 (.run 11 (.take 12 .done))))))))))))) (by kernel_rfl) (by kernel_rfl) ?_
          | refine draw_plan (id := 17) [] [] (.take 0 (.take 1 (.run 2 (.run 3 (.take 4 .done))))) (by kernel_rfl) (by kernel_rfl) ?_
          | refine draw_plan (id := 19) [] [] (.take 0 (.take 1 (.run 2 (.run 3 (.take 4 .done))))) (by kernel_rfl) (by kernel_rfl) ?_
          | refine draw_plan (id := 37) [] [] (.take 0 (.take 2 (.take 4 (.two 1 (.two 3 (.two 5 (.two 6 (.take 7 (.take 8 (.take 9 (.run 10 (.run 11 (.take 12 .done)))))) 10 (.run 6 (.take 7 (.take 8 (.take 9 (.run 11 (.take 12 .done))))))) 10 (.run 5 (.run 6 (.take 7 (.take 8 (.take 9 (.run 11 (.take 12 .done)))))))) 10 (.run 3 (.run 5 (.run 6 (.take 7 (.take 8 (.take 9 (.run 11 (.take 12 .done))))))))) 10 (.run 1 (.run 3 (.run 5 (.run 6 (.take 7 (.take 8 (.take 9 (.run 11 (.take 12 .done))))))))))))) (by kernel_rfl) (by kernel_rfl) ?_
          | refine brK_dec (fun _ => ?_) (fun _ => ?_)
          | refine brK_ndec (fun _ => ?_) (fun _ => ?_)
          | refine brK_not (fun _ => ?_) (fun _ => ?_)
          | refine brK_in (fun _ => ?_) (fun _ => ?_)
          | refine And.intro (by first | exact rfl | exact (tab_app hT) | exact ⟨_, rfl, rfl⟩ | exact ⟨rfl, rfl, rfl⟩ | exact of_decide_eq_true rfl | exact trivial | assumption | omega | (show (_ ≤ _ ∧ _ ≤ _); omega) | (simp; omega) | exact ⟨by first | omega | (simp; omega), _, rfl, rfl⟩) ?_
          | refine Both.mk (fun e => absurd (hq.symm.trans e) (by decide)) ?_
          | refine Both.mk ?_ (fun e => absurd (hq.symm.trans e) (by decide))
          | refine Both.mk ?_ ?_
          | refine Exists.intro _ (And.intro rfl ?_)
          | refine fun _ => ?_))
        | exact rfl)
      all_goals first
        | (rename_i q; exact absurd rfl q)
        | (exfalso; apply abs_ep; assumption)
        | (exfalso; apply abs_link; assumption)
        | (conv => whnf)
      refine ⟨(), [0, 1, 2, 5, 8, 10, 3, 4, 6, 7, 9], trivial, ?_⟩
      repeat' (first
        | ((conv => whnf); (first
          | refine brK_dec (fun _ => ?_) (fun _ => ?_)
          | refine brK_ndec (fun _ => ?_) (fun _ => ?_)
          | refine brK_not (fun _ => ?_) (fun _ => ?_)
          | refine brK_in (fun _ => ?_) (fun _ => ?_)
          | refine And.intro (by first | exact rfl | exact ⟨_, rfl, rfl⟩ | exact ⟨rfl, rfl, rfl⟩ | exact of_decide_eq_true rfl | exact trivial | assumption | omega | (show (_ ≤ _ ∧ _ ≤ _); omega) | (simp; omega) | exact ⟨by first | omega | (simp; omega), _, rfl, rfl⟩) ?_
          | refine Both.mk ?_ ?_
          | refine Exists.intro _ (And.intro rfl ?_)
          | refine fun _ => ?_))
        | exact rfl)
    rintro _ -
    refine cuts_step (by rfl) (fun _ : Unit => mkS 140 [(2, .ints s), (3, .ptr 0 0), (4, .ptr 1 0), (6, B false), (8, .ptr 2 0), (9, B false), (13, .ptr 3 0), (14, B false)]
      [.cells [I n, .ints c, .ints k, I r], .cells [I n2, .ints c2, .ints k2, I r2], .cells [I 0, .val (.slice none 0 0), .val (.slice none 0 0), I 0, I 0, .val (.slice none 0 0), I 0], .cells [I 0, .val (.slice none 0 0), .val (.slice none 0 0), I 0, I 0, .val (.slice none 0 0), I 0]] Fs) (fun _ => True) ?_ ?_
    · repeat' (first
        | ((conv => whnf); (first
          | refine draw_plan (id := 10) [] [] (.take 0 (.take 2 (.take 4 (.two 1 (.two 3 (.two 5 (.two 6 (.take 7 (.take 8 (.take 9 (.run 10 (.run 11 (.take 12 .done)))))) 10 (.run 6 (.take 7 (.take 8 (.take 9 (.run 11 (.take 12 .done))))))) 10 (.run 5 (.run 6 (.take 7 (.take 8 (.take 9 (.run 11 (.take 12 .done)))))))) 10 (.run 3 (.run 5 (.run 6 (.take 7 (.take 8 (.take 9 (.run 11 (.take 12 .done))))))))) 10 (.run 1 (.run 3 (.run 5 (.run 6 (.take 7 (.take 8 (.take 9 (.run 11 (.take 12 .done))))))))))))) (by kernel_rfl) (by kernel_rfl) ?_
          | refine draw_plan (id := 17) [] [] (.take 0 (.take 1 (.run 2 (.run 3 (.take 4 .done))))) (by kernel_rfl) (by kernel_rfl) ?_
          | refine draw_plan (id := 19) [] [] (.take 0 (.take 1 (.run 2 (.run 3 (.take 4 .done))))) (by kernel_rfl) (by kernel_rfl) ?_
          | refine draw_plan (id := 37) [] [] (.take 0 (.take 2 (.take 4 (.two 1 (.two 3 (.two 5 (.two 6 (.take 7 (.take 8 (.take 9 (.run 10 (.run 11 (.take 12 .done)))))) 10 (.run 6 (.take 7 (.take 8 (.take 9 (.run 11 (.take 12 .done))))))) 10 (.run 5 (.run 6 (.take 7 (.take 8 (.take 9 (.run 11 (.take 12 .done)))))))) 10 (.run 3 (.run 5 (.run 6 (.take 7 (.take 8 (.take 9 (.run 11 (.take 12 .done))))))))) 10 (.run 1 (.run 3 (.run 5 (.run 6 (.take 7 (.take 8 (.take 9 (.run 11 (.take 12 .done))))))))))))) (by kernel_rfl) (by kernel_rfl) ?_
          | refine brK_dec (fun _ => ?_) (fun _ => ?_)
          | refine brK_ndec (fun _ => ?_) (fun _ => ?_)
          | refine brK_not (fun _ => ?_) (fun _ => ?_)
          | refine brK_in (fun _ => ?_) (fun _ => ?_)
          | refine And.intro (by first | exact rfl | exact (by first | exact tab_app hT | exact mkL_len _ _ | (rw [mkL_len]; done) | (rw [mkL_len]; omega)) | exact ⟨_, rfl, rfl⟩ | exact ⟨rfl, rfl, rfl⟩ | exact of_decide_eq_true rfl | exact trivial | assumption | omega | (show (_ ≤ _ ∧ _ ≤ _); omega) | (simp; omega) | exact ⟨by first | omega | (simp; omega), _, rfl, rfl⟩) ?_
          | refine Both.mk (fun e => absurd (hq.symm.trans e) (by decide)) ?_
          | refine Both.mk ?_ (fun e => absurd (hq.symm.trans e) (by decide))
          | refine Both.mk ?_ ?_
          | refine Exists.intro _ (And.intro rfl ?_)
          | refine fun _ => ?_))
        | exact rfl)
      all_goals first
        | (exfalso; omega)
        | (exfalso; apply abs_link; assumption)
        | (conv => whnf)
      refine ⟨(), [0, 1, 2, 5], trivial, ?_⟩
      repeat' (first
        | ((conv => whnf); (first
          | refine brK_dec (fun _ => ?_) (fun _ => ?_)
          | refine brK_ndec (fun _ => ?_) (fun _ => ?_)
          | refine brK_not (fun _ => ?_) (fun _ => ?_)
          | refine brK_in (fun _ => ?_) (fun _ => ?_)
          | refine And.intro (by first | exact rfl | exact ⟨_, rfl, rfl⟩ | exact ⟨rfl, rfl, rfl⟩ | exact of_decide_eq_true rfl | exact trivial | assumption | omega | (show (_ ≤ _ ∧ _ ≤ _); omega) | (simp; omega) | exact ⟨by first | omega | (simp; omega), _, rfl, rfl⟩) ?_
          | refine Both.mk ?_ ?_
          | refine Exists.intro _ (And.intro rfl ?_)
          | refine fun _ => ?_))
        | exact rfl)
    rintro _ -
    refine cuts_step (by rfl) (fun _ : Unit => mkS 140 [(2, .ints s), (3, .ptr 0 0), (4, .ptr 1 0), (6, B false), (8, .ptr 2 0), (9, B false), (13, .ptr 3 0), (16, I 1)] [.cells [I n, .ints c, .ints k, I r], .cells [I n2, .ints c2, .ints k2, I r2], .cells [I 0, .val (.slice none 0 0), .val (.slice none 0 0), I 0, I 0, .val (.slice none 0 0), I 0], .cells [I 0, .val (.slice none 0 0), .val (.slice none 0 0), I 0, I 0, .val (.slice none 0 0), I 0]] Fs) (fun _ => True) ?_ ?_
    · repeat' (first
        | ((conv => whnf); (first
          | refine draw_plan (id := 10) [] [] (.take 0 (.take 2 (.take 4 (.two 1 (.two 3 (.two 5 (.two 6 (.take 7 (.take 8 (.take 9 (.run 10 (.run 11 (.take 12 .done)))))) 10 (.run 6 (.take 7 (.take 8 (.take 9 (.run 11 (.take 12 .done))))))) 10 (.run 5 (.run 6 (.take 7 (.take 8 (.take 9 (.run 11 (.take 12 .done)))))))) 10 (.run 3 (.run 5 (.run 6 (.take 7 (.take 8 (.take 9 (.run 11 (.take 12 .done))))))))) 10 (.run 1 (.run 3 (.run 5 (.run 6 (.take 7 (.take 8 (.take 9 (.run 11 (.take 12 .done))))))))))))) (by kernel_rfl) (by kernel_rfl) ?_
          | refine draw_plan (id := 17) [] [] (.take 0 (.take 1 (.run 2 (.run 3 (.take 4 .done))))) (by kernel_rfl) (by kernel_rfl) ?_
          | refine draw_plan (id := 19) [] [] (.take 0 (.take 1 (.run 2 (.run 3 (.take 4 .done))))) (by kernel_rfl) (by kernel_rfl) ?_
          | refine draw_plan (id := 37) [] [] (.take 0 (.take 2 (.take 4 (.two 1 (.two 3 (.two 5 (.two 6 (.take 7 (.take 8 (.take 9 (.run 10 (.run 11 (.take 12 .done)))))) 10 (.run 6 (.take 7 (.take 8 (.take 9 (.run 11 (.take 12 .done))))))) 10 (.run 5 (.run 6 (.take 7 (.take 8 (.take 9 (.run 11 (.take 12 .done)))))))) 10 (.run 3 (.run 5 (.run 6 (.take 7 (.take 8 (.take 9 (.run 11 (.take 12 .done))))))))) 10 (.run 1 (.run 3 (.run 5 (.run 6 (.take 7 (.take 8 (.take 9 (.run 11 (.take 12 .done))))))))))))) (by kernel_rfl) (by kernel_rfl) ?_
          | refine brK_dec (fun _ => ?_) (fun _ => ?_)
          | refine brK_ndec (fun _ => ?_) (fun _ => ?_)
          | refine brK_not (fun _ => ?_) (fun _ => ?_)
          | refine brK_in (fun _ => ?_) (fun _ => ?_)
          | refine And.intro (by first | exact rfl | exact ⟨_, rfl, rfl⟩ | exact ⟨rfl, rfl, rfl⟩ | exact of_decide_eq_true rfl | exact trivial | assumption | omega | (show (_ ≤ _ ∧ _ ≤ _); omega) | (simp; omega) | exact ⟨by first | omega | (simp; omega), _, rfl, rfl⟩) ?_
          | refine Both.mk (fun e => absurd (hq.symm.trans e) (by decide)) ?_
          | refine Both.mk ?_ (fun e => absurd (hq.symm.trans e) (by decide))
          | refine Both.mk ?_ ?_
          | refine Exists.intro _ (And.intro rfl ?_)
          | refine fun _ => ?_))
        | exact rfl)
      (conv => whnf)
      refine Or.inr ?_
      repeat' (first
        | ((conv => whnf); (first
          | refine draw_plan (id := 10) [] [] (.take 0 (.take 2 (.take 4 (.two 1 (.two 3 (.two 5 (.two 6 (.take 7 (.take 8 (.take 9 (.run 10 (.run 11 (.take 12 .done)))))) 10 (.run 6 (.take 7 (.take 8 (.take 9 (.run 11 (.take 12 .done))))))) 10 (.run 5 (.run 6 (.take 7 (.take 8 (.take 9 (.run 11 (.take 12 .done)))))))) 10 (.run 3 (.run 5 (.run 6 (.take 7 (.take 8 (.take 9 (.run 11 (.take 12 .done))))))))) 10 (.run 1 (.run 3 (.run 5 (.run 6 (.take 7 (.take 8 (.take 9 (.run 11 (.take 12 .done))))))))))))) (by kernel_rfl) (by kernel_rfl) ?_
          | refine draw_plan (id := 17) [] [] (.take 0 (.take 1 (.run 2 (.run 3 (.take 4 .done))))) (by kernel_rfl) (by kernel_rfl) ?_
          | refine draw_plan (id := 19) [] [] (.take 0 (.take 1 (.run 2 (.run 3 (.take 4 .done))))) (by kernel_rfl) (by kernel_rfl) ?_
          | refine draw_plan (id := 37) [] [] (.take 0 (.take 2 (.take 4 (.two 1 (.two 3 (.two 5 (.two 6 (.take 7 (.take 8 (.take 9 (.run 10 (.run 11 (.take 12 .done)))))) 10 (.run 6 (.take 7 (.take 8 (.take 9 (.run 11 (.take 12 .done))))))) 10 (.run 5 (.run 6 (.take 7 (.take 8 (.take 9 (.run 11 (.take 12 .done)))))))) 10 (.run 3 (.run 5 (.run 6 (.take 7 (.take 8 (.take 9 (.run 11 (.take 12 .done))))))))) 10 (.run 1 (.run 3 (.run 5 (.run 6 (.take 7 (.take 8 (.take 9 (.run 11 (.take 12 .done))))))))))))) (by kernel_rfl) (by kernel_rfl) ?_
          | refine brK_dec (fun _ => ?_) (fun _ => ?_)
          | refine brK_ndec (fun _ => ?_) (fun _ => ?_)
          | refine brK_not (fun _ => ?_) (fun _ => ?_)
          | refine brK_in (fun _ => ?_) (fun _ => ?_)
          | refine And.intro (by first | exact rfl | exact ⟨_, rfl, rfl⟩ | exact ⟨rfl, rfl, rfl⟩ | exact of_decide_eq_true rfl | exact trivial | assumption | omega | (show (_ ≤ _ ∧ _ ≤ _); omega) | (simp; omega) | exact ⟨by first | omega | (simp; omega), _, rfl, rfl⟩) ?_
          | refine Both.mk (fun e => absurd (hq.symm.trans e) (by decide)) ?_
          | refine Both.mk ?_ (fun e => absurd (hq.symm.trans e) (by decide))
          | refine Both.mk ?_ ?_
          | refine Exists.intro _ (And.intro rfl ?_)
          | refine fun _ => ?_))
        | exact rfl)
      (conv => whnf)
      refine ⟨(), [0, 1, 2, 3], trivial, ?_⟩
      repeat' (first
        | ((conv => whnf); (first
          | refine brK_dec (fun _ => ?_) (fun _ => ?_)
          | refine brK_ndec (fun _ => ?_) (fun _ => ?_)
          | refine brK_not (fun _ => ?_) (fun _ => ?_)
          | refine brK_in (fun _ => ?_) (fun _ => ?_)
          | refine And.intro (by first | exact rfl | exact ⟨_, rfl, rfl⟩ | exact ⟨rfl, rfl, rfl⟩ | exact of_decide_eq_true rfl | exact trivial | assumption | omega | (show (_ ≤ _ ∧ _ ≤ _); omega) | (simp; omega) | exact ⟨by first | omega | (simp; omega), _, rfl, rfl⟩) ?_
          | refine Both.mk ?_ ?_
          | refine Exists.intro _ (And.intro rfl ?_)
          | refine fun _ => ?_))
        | exact rfl)
    rintro _ -
    refine cuts_step (by rfl) (fun _ : Unit => mkS 140 [(2, .ints s), (3, .ptr 0 0), (4, .ptr 1 0), (6, B false), (8, .ptr 2 0), (9, B false), (13, .ptr 3 0), (16, I 1)] [.cells [I n, .ints c, .ints k, I r], .cells [I n2, .ints c2, .ints k2, I r2], .cells [I 0, .val (.slice none 0 0), .val (.slice none 0 0), I 0, I 0, .val (.slice none 0 0), I 0], .cells [I 0, .val (.slice none 0 0), .val (.slice none 0 0), I 0, I 0, .val (.slice none 0 0), I 0]] Fs) (fun _ => True) ?_ ?_
    · repeat' (first
        | ((conv => whnf); (first
          | refine draw_plan (id := 10) [] [] (.take 0 (.take 2 (.take 4 (.two 1 (.two 3 (.two 5 (.two 6 (.take 7 (.take 8 (.take 9 (.run 10 (.run 11 (.take 12 .done)))))) 10 (.run 6 (.take 7 (.take 8 (.take 9 (.run 11 (.take 12 .done))))))) 10 (.run 5 (.run 6 (.take 7 (.take 8 (.take 9 (.run 11 (.take 12 .done)))))))) 10 (.run 3 (.run 5 (.run 6 (.take 7 (.take 8 (.take 9 (.run 11 (.take 12 .done))))))))) 10 (.run 1 (.run 3 (.run 5 (.run 6 (.take 7 (.take 8 (.take 9 (.run 11 (.take 12 .done))))))))))))) (by kernel_rfl) (by kernel_rfl) ?_
          | refine draw_plan (id := 17) [] [] (.take 0 (.take 1 (.run 2 (.run 3 (.take 4 .done))))) (by kernel_rfl) (by kernel_rfl) ?_
          | refine draw_plan (id := 19) [] [] (.take 0 (.take 1 (.run 2 (.run 3 (.take 4 .done))))) (by kernel_rfl) (by kernel_rfl) ?_
          | refine draw_plan (id := 37) [] [] (.take 0 (.take 2 (.take 4 (.two 1 (.two 3 (.two 5 (.two 6 (.take 7 (.take 8 (.take 9 (.run 10 (.run 11 (.take 12 .done)))))) 10 (.run 6 (.take 7 (.take 8 (.take 9 (.run 11 (.take 12 .done))))))) 10 (.run 5 (.run 6 (.take 7 (.take 8 (.take 9 (.run 11 (.take 12 .done)))))))) 10 (.run 3 (.run 5 (.run 6 (.take 7 (.take 8 (.take 9 (.run 11 (.take 12 .done))))))))) 10 (.run 1 (.run 3 (.run 5 (.run 6 (.take 7 (.take 8 (.take 9 (.run 11 (.take 12 .done))))))))))))) (by kernel_rfl) (by kernel_rfl) ?_
          | refine brK_dec (fun _ => ?_) (fun _ => ?_)
          | refine brK_ndec (fun _ => ?_) (fun _ => ?_)
          | refine brK_not (fun _ => ?_) (fun _ => ?_)
          | refine brK_in (fun _ => ?_) (fun _ => ?_)
          | refine And.intro (by first | exact rfl | exact ⟨_, rfl, rfl⟩ | exact ⟨rfl, rfl, rfl⟩ | exact of_decide_eq_true rfl | exact trivial | assumption | omega | (show (_ ≤ _ ∧ _ ≤ _); omega) | (simp; omega) | exact ⟨by first | omega | (simp; omega), _, rfl, rfl⟩) ?_
          | refine Both.mk (fun e => absurd (hq.symm.trans e) (by decide)) ?_
          | refine Both.mk ?_ (fun e => absurd (hq.symm.trans e) (by decide))
          | refine Both.mk ?_ ?_
          | refine Exists.intro _ (And.intro rfl ?_)
          | refine fun _ => ?_))
        | exact rfl)
      all_goals first
        | (exfalso; omega)
        | (rename_i q; exact absurd rfl q)
        | (conv => whnf)
      refine ⟨(), [0, 1, 2, 3], trivial, ?_⟩
      repeat' (first
        | ((conv => whnf); (first
          | refine brK_dec (fun _ => ?_) (fun _ => ?_)
          | refine brK_ndec (fun _ => ?_) (fun _ => ?_)
          | refine brK_not (fun _ => ?_) (fun _ => ?_)
          | refine brK_in (fun _ => ?_) (fun _ => ?_)
          | refine And.intro (by first | exact rfl | exact ⟨_, rfl, rfl⟩ | exact ⟨rfl, rfl, rfl⟩ | exact of_decide_eq_true rfl | exact trivial | assumption | omega | (show (_ ≤ _ ∧ _ ≤ _); omega) | (simp; omega) | exact ⟨by first | omega | (simp; omega), _, rfl, rfl⟩) ?_
          | refine Both.mk ?_ ?_
          | refine Exists.intro _ (And.intro rfl ?_)
          | refine fun _ => ?_))
        | exact rfl)
    rintro _ -
    refine cuts_step (by rfl) (fun _ : Unit => mkS 140 [(6, B false), (13, .ptr 0 0), (16, I 1)] [.cells [I 0, .val (.slice none 0 0), .val (.slice none 0 0), I 0, I 0, .val (.slice none 0 0), I 0]] Fs) (fun _ => True) ?_ ?_
    · repeat' (first
        | ((conv => whnf); (first
          | refine draw_plan (id := 10) [] [] (.take 0 (.take 2 (.take 4 (.two 1 (.two 3 (.two 5 (.two 6 (.take 7 (.take 8 (.take 9 (.run 10 (.run 11 (.take 12 .done)))))) 10 (.run 6 (.take 7 (.take 8 (.take 9 (.run 11 (.take 12 .done))))))) 10 (.run 5 (.run 6 (.take 7 (.take 8 (.take 9 (.run 11 (.take 12 .done)))))))) 10 (.run 3 (.run 5 (.run 6 (.take 7 (.take 8 (.take 9 (.run 11 (.take 12 .done))))))))) 10 (.run 1 (.run 3 (.run 5 (.run 6 (.take 7 (.take 8 (.take 9 (.run 11 (.take 12 .done))))))))))))) (by kernel_rfl) (by kernel_rfl) ?_
          | refine draw_plan (id := 17) [] [] (.take 0 (.take 1 (.run 2 (.run 3 (.take 4 .done))))) (by kernel_rfl) (by kernel_rfl) ?_
          | refine draw_plan (id := 19) [] [] (.take 0 (.take 1 (.run 2 (.run 3 (.take 4 .done))))) (by kernel_rfl) (by kernel_rfl) ?_
          | refine draw_plan (id := 37) [] [] (.take 0 (.take 2 (.take 4 (.two 1 (.two 3 (.two 5 (.two 6 (.take 7 (.take 8 (.take 9 (.run 10 (.run 11 (.take 12 .done)))))) 10 (.run 6 (.take 7 (.take 8 (.take 9 (.run 11 (.take 12 .done))))))) 10 (.run 5 (.run 6 (.take 7 (.take 8 (.take 9 (.run 11 (.take 12 .done)))))))) 10 (.run 3 (.run 5 (.run 6 (.take 7 (.take 8 (.take 9 (.run 11 (.take 12 .done))))))))) 10 (.run 1 (.run 3 (.run 5 (.run 6 (.take 7 (.take 8 (.take 9 (.run 11 (.take 12 .done))))))))))))) (by kernel_rfl) (by kernel_rfl) ?_
          | refine brK_dec (fun _ => ?_) (fun _ => ?_)
          | refine brK_ndec (fun _ => ?_) (fun _ => ?_)
          | refine brK_not (fun _ => ?_) (fun _ => ?_)
          | refine brK_in (fun _ => ?_) (fun _ => ?_)
          | refine And.intro (by first | exact rfl | exact (tab_app hT) | exact ⟨_, rfl, rfl⟩ | exact ⟨rfl, rfl, rfl⟩ | exact of_decide_eq_true rfl | exact trivial | assumption | omega | (show (_ ≤ _ ∧ _ ≤ _); omega) | (simp; omega) | exact ⟨by first | omega | (simp; omega), _, rfl, rfl⟩) ?_
          | refine Both.mk (fun e => absurd (hq.symm.trans e) (by decide)) ?_
          | refine Both.mk ?_ (fun e => absurd (hq.symm.trans e) (by decide))
          | refine Both.mk ?_ ?_
          | refine Exists.intro _ (And.intro rfl ?_)
          | refine fun _ => ?_))
        | exact rfl)
      all_goals first
        | (exfalso; apply abs_link; assumption)
        | (conv => whnf)
      all_goals
        refine ⟨(), [3], trivial, ?_⟩
        repeat' (first
          | ((conv => whnf); (first
            | refine brK_dec (fun _ => ?_) (fun _ => ?_)
            | refine brK_ndec (fun _ => ?_) (fun _ => ?_)
            | refine brK_not (fun _ => ?_) (fun _ => ?_)
            | refine brK_in (fun _ => ?_) (fun _ => ?_)
            | refine And.intro (by first | exact rfl | exact ⟨_, rfl, rfl⟩ | exact ⟨rfl, rfl, rfl⟩ | exact of_decide_eq_true rfl | exact trivial | assumption | omega | (show (_ ≤ _ ∧ _ ≤ _); omega) | (simp; omega) | exact ⟨by first | omega | (simp; omega), _, rfl, rfl⟩) ?_
            | refine Both.mk ?_ ?_
            | refine Exists.intro _ (And.intro rfl ?_)
            | refine fun _ => ?_))
          | exact rfl)
    rintro _ -
    repeat' (first
      | ((conv => whnf); (first
        | refine draw_plan (id := 10) [] [] (.take 0 (.take 2 (.take 4 (.two 1 (.two 3 (.two 5 (.two 6 (.take 7 (.take 8 (.take 9 (.run 10 (.run 11 (.take 12 .done)))))) 10 (.run 6 (.take 7 (.take 8 (.take 9 (.run 11 (.take 12 .done))))))) 10 (.run 5 (.run 6 (.take 7 (.take 8 (.take 9 (.run 11 (.take 12 .done)))))))) 10 (.run 3 (.run 5 (.run 6 (.take 7 (.take 8 (.take 9 (.run 11 (.take 12 .done))))))))) 10 (.run 1 (.run 3 (.run 5 (.run 6 (.take 7 (.take 8 (.take 9 (.run 11 (.take 12 .done))))))))))))) (by kernel_rfl) (by kernel_rfl) ?_
        | refine draw_plan (id := 17) [] [] (.take 0 (.take 1 (.run 2 (.run 3 (.take 4 .done))))) (by kernel_rfl) (by kernel_rfl) ?_
        | refine draw_plan (id := 19) [] [] (.take 0 (.take 1 (.run 2 (.run 3 (.take 4 .done))))) (by kernel_rfl) (by kernel_rfl) ?_
        | refine draw_plan (id := 37) [] [] (.take 0 (.take 2 (.take 4 (.two 1 (.two 3 (.two 5 (.two 6 (.take 7 (.take 8 (.take 9 (.run 10 (.run 11 (.take 12 .done)))))) 10 (.run 6 (.take 7 (.take 8 (.take 9 (.run 11 (.take 12 .done))))))) 10 (.run 5 (.run 6 (.take 7 (.take 8 (.take 9 (.run 11 (.take 12 .done)))))))) 10 (.run 3 (.run 5 (.run 6 (.take 7 (.take 8 (.take 9 (.run 11 (.take 12 .done))))))))) 10 (.run 1 (.run 3 (.run 5 (.run 6 (.take 7 (.take 8 (.take 9 (.run 11 (.take 12 .done))))))))))))) (by kernel_rfl) (by kernel_rfl) ?_
        | refine brK_dec (fun _ => ?_) (fun _ => ?_)
        | refine brK_ndec (fun _ => ?_) (fun _ => ?_)
        | refine brK_not (fun _ => ?_) (fun _ => ?_)
        | refine brK_in (fun _ => ?_) (fun _ => ?_)
        | refine And.intro (by first | exact rfl | exact ⟨_, rfl, rfl⟩ | exact ⟨rfl, rfl, rfl⟩ | exact of_decide_eq_true rfl | exact trivial | assumption | omega | (show (_ ≤ _ ∧ _ ≤ _); omega) | (simp; omega) | exact ⟨by first | omega | (simp; omega), _, rfl, rfl⟩) ?_
        | refine Both.mk (fun e => absurd (hq.symm.trans e) (by decide)) ?_
        | refine Both.mk ?_ (fun e => absurd (hq.symm.trans e) (by decide))
        | refine Both.mk ?_ ?_
        | refine Exists.intro _ (And.intro rfl ?_)
        | refine fun _ => ?_))
      | exact rfl)
    all_goals first
      | exact h
      | (exfalso; omega)
      | (rename_i q; exact absurd rfl q)
  · refine cuts_step (by rfl) (fun _ : Unit => mkS 140 [(2, .ints s), (3, .ptr 0 0), (4, .ptr 1 0), (6, B false), (8, .ptr 2 0), (9, B true), (10, .ptr 3 0), (11, .ptr 4 0), (12, .own 13), (13, .ptr 5 0), (14, B true)]
      [.cells [I n, .ints c, .ints k, I r], .cells [I n2, .ints c2, .ints k2, I r2], .cells [I n2, .ints c2, .ints k2, I r2, I (digE n2 c2 k2 r2), .ints (sgnL (sgnS (digE n2 c2 k2 r2) s) c.length), I ((sgnS (digE n2 c2 k2 r2) s).sum % 997)], .cells [I n, .own 6, .own 7, I r], .cells [I n2, .own 8, .own 9, I r2], .cells [I n2, .own 10, .own 11, I r2, I (digE n2 c2 k2 r2), .own 12, I ((sgnS (digE n2 c2 k2 r2) s).sum % 997)], .iarr c, .iarr k, .iarr c2, .iarr k2, .iarr c2, .iarr k2, .iarr (sgnL (sgnS (digE n2 c2 k2 r2) s) c.length), .iarr s] Fs) (fun _ => True) ?_ ?_
    · dsimp only
      repeat' (first
        | ((conv => whnf); (first
          | refine draw_plan (id := 10) [] [] (.take 0 (.take 2 (.take 4 (.two 1 (.two 3 (.two 5 (.two 6 (.take 7 (.take 8 (.take 9 (.run 10 (.run 11 (.take 12 .done)))))) 10 (.run 6 (.take 7 (.take 8 (.take 9 (.run 11 (.take 12 .done))))))) 10 (.run 5 (.run 6 (.take 7 (.take 8 (.take 9 (.run 11 (.take 12 .done)))))))) 10 (.run 3 (.run 5 (.run 6 (.take 7 (.take 8 (.take 9 (.run 11 (.take 12 .done))))))))) 10 (.run 1 (.run 3 (.run 5 (.run 6 (.take 7 (.take 8 (.take 9 (.run 11 (.take 12 .done))))))))))))) (by kernel_rfl) (by kernel_rfl) ?_
          | refine draw_plan (id := 17) [] [] (.take 0 (.take 1 (.run 2 (.run 3 (.take 4 .done))))) (by kernel_rfl) (by kernel_rfl) ?_
          | refine draw_plan (id := 19) [] [] (.take 0 (.take 1 (.run 2 (.run 3 (.take 4 .done))))) (by kernel_rfl) (by kernel_rfl) ?_
          | refine draw_plan (id := 37) [] [] (.take 0 (.take 2 (.take 4 (.two 1 (.two 3 (.two 5 (.two 6 (.take 7 (.take 8 (.take 9 (.run 10 (.run 11 (.take 12 .done)))))) 10 (.run 6 (.take 7 (.take 8 (.take 9 (.run 11 (.take 12 .done))))))) 10 (.run 5 (.run 6 (.take 7 (.take 8 (.take 9 (.run 11 (.take 12 .done)))))))) 10 (.run 3 (.run 5 (.run 6 (.take 7 (.take 8 (.take 9 (.run 11 (.take 12 .done))))))))) 10 (.run 1 (.run 3 (.run 5 (.run 6 (.take 7 (.take 8 (.take 9 (.run 11 (.take 12 .done))))))))))))) (by kernel_rfl) (by kernel_rfl) ?_
          | refine brK_dec (fun _ => ?_) (fun _ => ?_)
          | refine brK_ndec (fun _ => ?_) (fun _ => ?_)
          | refine brK_not (fun _ => ?_) (fun _ => ?_)
          | refine brK_in (fun _ => ?_) (fun _ => ?_)
          | refine And.intro (by first | exact rfl | exact (tab_app hT) | exact ⟨_, rfl, rfl⟩ | exact ⟨rfl, rfl, rfl⟩ | exact of_decide_eq_true rfl | exact trivial | assumption | omega | (show (_ ≤ _ ∧ _ ≤ _); omega) | (simp; omega) | exact ⟨by first | omega | (simp; omega), _, rfl, rfl⟩) ?_
          | refine Both.mk (fun e => absurd (hq.symm.trans e) (by decide)) ?_
          | refine Both.mk ?_ (fun e => absurd (hq.symm.trans e) (by decide))
          | refine Both.mk ?_ ?_
          | refine Exists.intro _ (And.intro rfl ?_)
          | refine fun _ => ?_))
        | exact rfl)
      all_goals first
        | (rename_i q; exact absurd rfl q)
        | (exfalso; apply abs_ep; assumption)
        | (exfalso; apply abs_link; assumption)
        | (conv => whnf)
      refine ⟨(), [0, 1, 2, 5, 8, 13, 3, 4, 6, 7, 10, 11, 12, 9], trivial, ?_⟩
      repeat' (first
        | ((conv => whnf); (first
          | refine brK_dec (fun _ => ?_) (fun _ => ?_)
          | refine brK_ndec (fun _ => ?_) (fun _ => ?_)
          | refine brK_not (fun _ => ?_) (fun _ => ?_)
          | refine brK_in (fun _ => ?_) (fun _ => ?_)
          | refine And.intro (by first | exact rfl | exact ⟨_, rfl, rfl⟩ | exact ⟨rfl, rfl, rfl⟩ | exact of_decide_eq_true rfl | exact trivial | assumption | omega | (show (_ ≤ _ ∧ _ ≤ _); omega) | (simp; omega) | exact ⟨by first | omega | (simp; omega), _, rfl, rfl⟩) ?_
          | refine Both.mk ?_ ?_
          | refine Exists.intro _ (And.intro rfl ?_)
          | refine fun _ => ?_))
        | exact rfl)
    rintro _ -
    refine cuts_step (by rfl) (fun _ : Unit => mkS 140 [(2, .ints s), (3, .ptr 0 0), (4, .ptr 1 0), (6, B false), (8, .ptr 2 0), (9, B true), (13, .ptr 3 0), (14, B true)]
      [.cells [I n, .ints c, .ints k, I r], .cells [I n2, .ints c2, .ints k2, I r2], .cells [I n2, .ints c2, .ints k2, I r2, I (digE n2 c2 k2 r2), .ints (sgnL (sgnS (digE n2 c2 k2 r2) s) c.length), I ((sgnS (digE n2 c2 k2 r2) s).sum % 997)], .cells [I n2, .own 4, .own 5, I r2, I (digE n2 c2 k2 r2), .own 6, I ((sgnS (digE n2 c2 k2 r2) s).sum % 997)], .iarr c2, .iarr k2, .iarr (sgnL (sgnS (digE n2 c2 k2 r2) s) c.length)] Fs) (fun _ => True) ?_ ?_
    · repeat' (first
        | ((conv => whnf); (first
          | refine draw_plan (id := 10) [] [] (.take 0 (.take 2 (.take 4 (.two 1 (.two 3 (.two 5 (.two 6 (.take 7 (.take 8 (.take 9 (.run 10 (.run 11 (.take 12 .done)))))) 10 (.run 6 (.take 7 (.take 8 (.take 9 (.run 11 (.take 12 .done))))))) 10 (.run 5 (.run 6 (.take 7 (.take 8 (.take 9 (.run 11 (.take 12 .done)))))))) 10 (.run 3 (.run 5 (.run 6 (.take 7 (.take 8 (.take 9 (.run 11 (.take 12 .done))))))))) 10 (.run 1 (.run 3 (.run 5 (.run 6 (.take 7 (.take 8 (.take 9 (.run 11 (.take 12 .done))))))))))))) (by kernel_rfl) (by kernel_rfl) ?_
          | refine draw_plan (id := 17) [] [] (.take 0 (.take 1 (.run 2 (.run 3 (.take 4 .done))))) (by kernel_rfl) (by kernel_rfl) ?_
          | refine draw_plan (id := 19) [] [] (.take 0 (.take 1 (.run 2 (.run 3 (.take 4 .done))))) (by kernel_rfl) (by kernel_rfl) ?_
          | refine draw_plan (id := 37) [] [] (.take 0 (.take 2 (.take 4 (.two 1 (.two 3 (.two 5 (.two 6 (.take 7 (.take 8 (.take 9 (.run 10 (.run 11 (.take 12 .done)))))) 10 (.run 6 (.take 7 (.take 8 (.take 9 (.run 11 (.take 12 .done))))))) 10 (.run 5 (.run 6 (.take 7 (.take 8 (.take 9 (.run 11 (.take 12 .done)))))))) 10 (.run 3 (.run 5 (.run 6 (.take 7 (.take 8 (.take 9 (.run 11 (.take 12 .done))))))))) 10 (.run 1 (.run 3 (.run 5 (.run 6 (.take 7 (.take 8 (.take 9 (.run 11 (.take 12 .done))))))))))))) (by kernel_rfl) (by kernel_rfl) ?_
          | refine brK_dec (fun _ => ?_) (fun _ => ?_)
          | refine brK_ndec (fun _ => ?_) (fun _ => ?_)
          | refine brK_not (fun _ => ?_) (fun _ => ?_)
          | refine brK_in (fun _ => ?_) (fun _ => ?_)
          | refine And.intro (by first | exact rfl | exact (by first | exact tab_app hT | exact mkL_len _ _ | (rw [mkL_len]; done) | (rw [mkL_len]; omega)) | exact ⟨_, rfl, rfl⟩ | exact ⟨rfl, rfl, rfl⟩ | exact of_decide_eq_true rfl | exact trivial | assumption | omega | (show (_ ≤ _ ∧ _ ≤ _); omega) | (simp; omega) | exact ⟨by first | omega | (simp; omega), _, rfl, rfl⟩) ?_
          | refine Both.mk (fun e => absurd (hq.symm.trans e) (by decide)) ?_
          | refine Both.mk ?_ (fun e => absurd (hq.symm.trans e) (by decide))
          | refine Both.mk ?_ ?_
          | refine Exists.intro _ (And.intro rfl ?_)
          | refine fun _ => ?_))
        | exact rfl)
      all_goals first
        | (exfalso; omega)
        | (exfalso; apply abs_link; assumption)
        | (conv => whnf)
      refine ⟨(), [0, 1, 2, 5, 10, 11, 12], trivial, ?_⟩
      repeat' (first
        | ((conv => whnf); (first
          | refine brK_dec (fun _ => ?_) (fun _ => ?_)
          | refine brK_ndec (fun _ => ?_) (fun _ => ?_)
          | refine brK_not (fun _ => ?_) (fun _ => ?_)
          | refine brK_in (fun _ => ?_) (fun _ => ?_)
          | refine And.intro (by first | exact rfl | exact ⟨_, rfl, rfl⟩ | exact ⟨rfl, rfl, rfl⟩ | exact of_decide_eq_true rfl | exact trivial | assumption | omega | (show (_ ≤ _ ∧ _ ≤ _); omega) | (simp; omega) | exact ⟨by first | omega | (simp; omega), _, rfl, rfl⟩) ?_
          | refine Both.mk ?_ ?_
          | refine Exists.intro _ (And.intro rfl ?_)
          | refine fun _ => ?_))
        | exact rfl)
    rintro _ -
    refine cuts_step (by rfl) (fun g : Int × List Int × List Int × List Int => mkS 140 [(2, .ints s), (3, .ptr 0 0), (4, .ptr 1 0), (6, B false), (8, .ptr 2 0), (9, B true), (13, .ptr 3 0), (16, I g.1)] [.cells [I n, .ints c, .ints k, I r], .cells [I n2, .ints c2, .ints k2, I r2], .cells [I n2, .ints c2, .ints k2, I r2, I (digE n2 c2 k2 r2), .ints (sgnL (sgnS (digE n2 c2 k2 r2) s) c.length), I ((sgnS (digE n2 c2 k2 r2) s).sum % 997)], .cells [I n2, .ints g.2.1, .ints g.2.2.1, I r2, I (digE n2 c2 k2 r2), .ints g.2.2.2, I ((sgnS (digE n2 c2 k2 r2) s).sum % 997)]] Fs) (fun g => g.2.1 = mkL 1 g.2.1.length ∧ g.2.2.1 = mkL (1 + g.2.1.length) g.2.2.1.length ∧ g.2.2.2 = mkL (1 + g.2.1.length + g.2.2.1.length) g.2.2.2.length ∧ g.1 = 1 + g.2.1.length + g.2.2.1.length + g.2.2.2.length ∧ g.2.1.length < 2000000 ∧ g.2.2.1.length < 2000000 ∧ g.2.2.2.length < 2000000) ?_ ?_
    · repeat' (first
        | ((conv => whnf); (first
          | refine draw_plan (id := 10) [] [] (.take 0 (.take 2 (.take 4 (.two 1 (.two 3 (.two 5 (.two 6 (.take 7 (.take 8 (.take 9 (.run 10 (.run 11 (.take 12 .done)))))) 10 (.run 6 (.take 7 (.take 8 (.take 9 (.run 11 (.take 12 .done))))))) 10 (.run 5 (.run 6 (.take 7 (.take 8 (.take 9 (.run 11 (.take 12 .done)))))))) 10 (.run 3 (.run 5 (.run 6 (.take 7 (.take 8 (.take 9 (.run 11 (.take 12 .done))))))))) 10 (.run 1 (.run 3 (.run 5 (.run 6 (.take 7 (.take 8 (.take 9 (.run 11 (.take 12 .done))))))))))))) (by kernel_rfl) (by kernel_rfl) ?_
          | refine draw_plan (id := 17) [] [] (.take 0 (.take 1 (.run 2 (.run 3 (.take 4 .done))))) (by kernel_rfl) (by kernel_rfl) ?_
          | refine draw_plan (id := 19) [] [] (.take 0 (.take 1 (.run 2 (.run 3 (.take 4 .done))))) (by kernel_rfl) (by kernel_rfl) ?_
          | refine draw_plan (id := 37) [] [] (.take 0 (.take 2 (.take 4 (.two 1 (.two 3 (.two 5 (.two 6 (.take 7 (.take 8 (.take 9 (.run 10 (.run 11 (.take 12 .done)))))) 10 (.run 6 (.take 7 (.take 8 (.take 9 (.run 11 (.take 12 .done))))))) 10 (.run 5 (.run 6 (.take 7 (.take 8 (.take 9 (.run 11 (.take 12 .done)))))))) 10 (.run 3 (.run 5 (.run 6 (.take 7 (.take 8 (.take 9 (.run 11 (.take 12 .done))))))))) 10 (.run 1 (.run 3 (.run 5 (.run 6 (.take 7 (.take 8 (.take 9 (.run 11 (.take 12 .done))))))))))))) (by kernel_rfl) (by kernel_rfl) ?_
          | refine brK_dec (fun _ => ?_) (fun _ => ?_)
          | refine brK_ndec (fun _ => ?_) (fun _ => ?_)
          | refine brK_not (fun _ => ?_) (fun _ => ?_)
          | refine brK_in (fun _ => ?_) (fun _ => ?_)
          | refine And.intro (by first | exact rfl | exact (by first | exact tab_app hT | exact mkL_len _ _ | (rw [mkL_len]; done) | (rw [mkL_len]; omega)) | exact ⟨_, rfl, rfl⟩ | exact ⟨rfl, rfl, rfl⟩ | exact of_decide_eq_true rfl | exact trivial | assumption | omega | (show (_ ≤ _ ∧ _ ≤ _); omega) | (simp; omega) | exact ⟨by first | omega | (simp; omega), _, rfl, rfl⟩) ?_
          | refine Both.mk (fun e => absurd (hq.symm.trans e) (by decide)) ?_
          | refine Both.mk ?_ (fun e => absurd (hq.symm.trans e) (by decide))
          | refine Both.mk ?_ ?_
          | refine Exists.intro _ (And.intro rfl ?_)
          | refine fun _ => ?_))
        | exact rfl)
      (conv => whnf)
      refine Or.inl ?_
      repeat' (first
        | ((conv => whnf); (first
          | refine draw_plan (id := 10) [] [] (.take 0 (.take 2 (.take 4 (.two 1 (.two 3 (.two 5 (.two 6 (.take 7 (.take 8 (.take 9 (.run 10 (.run 11 (.take 12 .done)))))) 10 (.run 6 (.take 7 (.take 8 (.take 9 (.run 11 (.take 12 .done))))))) 10 (.run 5 (.run 6 (.take 7 (.take 8 (.take 9 (.run 11 (.take 12 .done)))))))) 10 (.run 3 (.run 5 (.run 6 (.take 7 (.take 8 (.take 9 (.run 11 (.take 12 .done))))))))) 10 (.run 1 (.run 3 (.run 5 (.run 6 (.take 7 (.take 8 (.take 9 (.run 11 (.take 12 .done))))))))))))) (by kernel_rfl) (by kernel_rfl) ?_
          | refine draw_plan (id := 17) [] [] (.take 0 (.take 1 (.run 2 (.run 3 (.take 4 .done))))) (by kernel_rfl) (by kernel_rfl) ?_
          | refine draw_plan (id := 19) [] [] (.take 0 (.take 1 (.run 2 (.run 3 (.take 4 .done))))) (by kernel_rfl) (by kernel_rfl) ?_
          | refine draw_plan (id := 37) [] [] (.take 0 (.take 2 (.take 4 (.two 1 (.two 3 (.two 5 (.two 6 (.take 7 (.take 8 (.take 9 (.run 10 (.run 11 (.take 12 .done)))))) 10 (.run 6 (.take 7 (.take 8 (.take 9 (.run 11 (.take 12 .done))))))) 10 (.run 5 (.run 6 (.take 7 (.take 8 (.take 9 (.run 11 (.take 12 .done)))))))) 10 (.run 3 (.run 5 (.run 6 (.take 7 (.take 8 (.take 9 (.run 11 (.take 12 .done))))))))) 10 (.run 1 (.run 3 (.run 5 (.run 6 (.take 7 (.take 8 (.take 9 (.run 11 (.take 12 .done))))))))))))) (by kernel_rfl) (by kernel_rfl) ?_
          | refine brK_dec (fun _ => ?_) (fun _ => ?_)
          | refine brK_ndec (fun _ => ?_) (fun _ => ?_)
          | refine brK_not (fun _ => ?_) (fun _ => ?_)
          | refine brK_in (fun _ => ?_) (fun _ => ?_)
          | refine And.intro (by first | exact rfl | exact (by first | exact tab_app hT | exact mkL_len _ _ | (rw [mkL_len]; done) | (rw [mkL_len]; omega)) | exact ⟨_, rfl, rfl⟩ | exact ⟨rfl, rfl, rfl⟩ | exact of_decide_eq_true rfl | exact trivial | assumption | omega | (show (_ ≤ _ ∧ _ ≤ _); omega) | (simp; omega) | exact ⟨by first | omega | (simp; omega), _, rfl, rfl⟩) ?_
          | refine Both.mk (fun e => absurd (hq.symm.trans e) (by decide)) ?_
          | refine Both.mk ?_ (fun e => absurd (hq.symm.trans e) (by decide))
          | refine Both.mk ?_ ?_
          | refine Exists.intro _ (And.intro rfl ?_)
          | refine fun _ => ?_))
        | exact rfl)
      (conv => whnf)
      refine ⟨(1 + c2.length + k2.length + (sgnL (sgnS (digE n2 c2 k2 r2) s) c.length).length, mkL 1 c2.length, mkL (1 + c2.length) k2.length, mkL (1 + c2.length + k2.length) (sgnL (sgnS (digE n2 c2 k2 r2) s) c.length).length), [0, 1, 2, 3], ⟨by simp only [mkL_len], by simp only [mkL_len], by simp only [mkL_len], by simp only [mkL_len], by simp only [mkL_len]; omega, by simp only [mkL_len]; omega, by simp only [mkL_len]; omega⟩, ?_⟩
      repeat' (first
        | ((conv => whnf); (first
          | refine brK_dec (fun _ => ?_) (fun _ => ?_)
          | refine brK_ndec (fun _ => ?_) (fun _ => ?_)
          | refine brK_not (fun _ => ?_) (fun _ => ?_)
          | refine brK_in (fun _ => ?_) (fun _ => ?_)
          | refine And.intro (by first | exact rfl | exact ⟨_, rfl, rfl⟩ | exact ⟨rfl, rfl, rfl⟩ | exact of_decide_eq_true rfl | exact trivial | assumption | omega | (show (_ ≤ _ ∧ _ ≤ _); omega) | (simp; omega) | exact ⟨by first | omega | (simp; omega), _, rfl, rfl⟩) ?_
          | refine Both.mk ?_ ?_
          | refine Exists.intro _ (And.intro rfl ?_)
          | refine fun _ => ?_))
        | exact rfl)
    rintro ⟨z, a, b, d⟩ ⟨j1, j2, j3, j4, j5, j6, j7⟩
    dsimp only at j1 j2 j3 j4 j5 j6 j7
    refine cuts_step (by rfl) (fun _ : Unit => mkS 140 [(2, .ints s), (3, .ptr 0 0), (4, .ptr 1 0), (6, B false), (8, .ptr 2 0), (9, B true), (13, .ptr 3 0), (16, I z)] [.cells [I n, .ints c, .ints k, I r], .cells [I n2, .ints c2, .ints k2, I r2], .cells [I n2, .ints c2, .ints k2, I r2, I (digE n2 c2 k2 r2), .ints (sgnL (sgnS (digE n2 c2 k2 r2) s) c.length), I ((sgnS (digE n2 c2 k2 r2) s).sum % 997)], .cells [I n2, .ints a, .ints b, I r2, I (digE n2 c2 k2 r2), .ints d, I ((sgnS (digE n2 c2 k2 r2) s).sum % 997)]] Fs) (fun _ => True) ?_ ?_
    · dsimp only
      repeat' (first
        | ((conv => whnf); (first
          | refine draw_plan (id := 10) [] [] (.take 0 (.take 2 (.take 4 (.two 1 (.two 3 (.two 5 (.two 6 (.take 7 (.take 8 (.take 9 (.run 10 (.run 11 (.take 12 .done)))))) 10 (.run 6 (.take 7 (.take 8 (.take 9 (.run 11 (.take 12 .done))))))) 10 (.run 5 (.run 6 (.take 7 (.take 8 (.take 9 (.run 11 (.take 12 .done)))))))) 10 (.run 3 (.run 5 (.run 6 (.take 7 (.take 8 (.take 9 (.run 11 (.take 12 .done))))))))) 10 (.run 1 (.run 3 (.run 5 (.run 6 (.take 7 (.take 8 (.take 9 (.run 11 (.take 12 .done))))))))))))) (by kernel_rfl) (by kernel_rfl) ?_
          | refine draw_plan (id := 17) [] [] (.take 0 (.take 1 (.run 2 (.run 3 (.take 4 .done))))) (by kernel_rfl) (by kernel_rfl) ?_
          | refine draw_plan (id := 19) [] [] (.take 0 (.take 1 (.run 2 (.run 3 (.take 4 .done))))) (by kernel_rfl) (by kernel_rfl) ?_
          | refine draw_plan (id := 37) [] [] (.take 0 (.take 2 (.take 4 (.two 1 (.two 3 (.two 5 (.two 6 (.take 7 (.take 8 (.take 9 (.run 10 (.run 11 (.take 12 .done)))))) 10 (.run 6 (.take 7 (.take 8 (.take 9 (.run 11 (.take 12 .done))))))) 10 (.run 5 (.run 6 (.take 7 (.take 8 (.take 9 (.run 11 (.take 12 .done)))))))) 10 (.run 3 (.run 5 (.run 6 (.take 7 (.take 8 (.take 9 (.run 11 (.take 12 .done))))))))) 10 (.run 1 (.run 3 (.run 5 (.run 6 (.take 7 (.take 8 (.take 9 (.run 11 (.take 12 .done))))))))))))) (by kernel_rfl) (by kernel_rfl) ?_
          | refine brK_dec (fun _ => ?_) (fun _ => ?_)
          | refine brK_ndec (fun _ => ?_) (fun _ => ?_)
          | refine brK_not (fun _ => ?_) (fun _ => ?_)
          | refine brK_in (fun _ => ?_) (fun _ => ?_)
          | refine And.intro (by first | exact rfl | exact ⟨_, rfl, rfl⟩ | exact ⟨rfl, rfl, rfl⟩ | exact of_decide_eq_true rfl | exact trivial | assumption | omega | (show (_ ≤ _ ∧ _ ≤ _); omega) | (simp; omega) | exact ⟨by first | omega | (simp; omega), _, rfl, rfl⟩) ?_
          | refine Both.mk (fun e => absurd (hq.symm.trans e) (by decide)) ?_
          | refine Both.mk ?_ (fun e => absurd (hq.symm.trans e) (by decide))
          | refine Both.mk ?_ ?_
          | refine Exists.intro _ (And.intro rfl ?_)
          | refine fun _ => ?_))
        | exact rfl)
      all_goals first
        | (exfalso; omega)
        | (conv => whnf)
      refine ⟨(), [0, 1, 2, 3], trivial, ?_⟩
      repeat' (first
        | ((conv => whnf); (first
          | refine brK_dec (fun _ => ?_) (fun _ => ?_)
          | refine brK_ndec (fun _ => ?_) (fun _ => ?_)
          | refine brK_not (fun _ => ?_) (fun _ => ?_)
          | refine brK_in (fun _ => ?_) (fun _ => ?_)
          | refine And.intro (by first | exact rfl | exact ⟨_, rfl, rfl⟩ | exact ⟨rfl, rfl, rfl⟩ | exact of_decide_eq_true rfl | exact trivial | assumption | omega | (show (_ ≤ _ ∧ _ ≤ _); omega) | (simp; omega) | exact ⟨by first | omega | (simp; omega), _, rfl, rfl⟩) ?_
          | refine Both.mk ?_ ?_
          | refine Exists.intro _ (And.intro rfl ?_)
          | refine fun _ => ?_))
        | exact rfl)
    rintro _ -
    refine cuts_step (by rfl) (fun _ : Unit => mkS 140 [(6, B false), (13, .ptr 0 0), (16, I z)] [.cells [I n2, .ints a, .ints b, I r2, I (digE n2 c2 k2 r2), .ints d, I ((sgnS (digE n2 c2 k2 r2) s).sum % 997)]] Fs) (fun _ => True) ?_ ?_
    · repeat' (first
        | ((conv => whnf); (first
          | refine draw_plan (id := 10) [] [] (.take 0 (.take 2 (.take 4 (.two 1 (.two 3 (.two 5 (.two 6 (.take 7 (.take 8 (.take 9 (.run 10 (.run 11 (.take 12 .done)))))) 10 (.run 6 (.take 7 (.take 8 (.take 9 (.run 11 (.take 12 .done))))))) 10 (.run 5 (.run 6 (.take 7 (.take 8 (.take 9 (.run 11 (.take 12 .done)))))))) 10 (.run 3 (.run 5 (.run 6 (.take 7 (.take 8 (.take 9 (.run 11 (.take 12 .done))))))))) 10 (.run 1 (.run 3 (.run 5 (.run 6 (.take 7 (.take 8 (.take 9 (.run 11 (.take 12 .done))))))))))))) (by kernel_rfl) (by kernel_rfl) ?_
          | refine draw_plan (id := 17) [] [] (.take 0 (.take 1 (.run 2 (.run 3 (.take 4 .done))))) (by kernel_rfl) (by kernel_rfl) ?_
          | refine draw_plan (id := 19) [] [] (.take 0 (.take 1 (.run 2 (.run 3 (.take 4 .done))))) (by kernel_rfl) (by kernel_rfl) ?_
          | refine draw_plan (id := 37) [] [] (.take 0 (.take 2 (.take 4 (.two 1 (.two 3 (.two 5 (.two 6 (.take 7 (.take 8 (.take 9 (.run 10 (.run 11 (.take 12 .done)))))) 10 (.run 6 (.take 7 (.take 8 (.take 9 (.run 11 (.take 12 .done))))))) 10 (.run 5 (.run 6 (.take 7 (.take 8 (.take 9 (.run 11 (.take 12 .done)))))))) 10 (.run 3 (.run 5 (.run 6 (.take 7 (.take 8 (.take 9 (.run 11 (.take 12 .done))))))))) 10 (.run 1 (.run 3 (.run 5 (.run 6 (.take 7 (.take 8 (.take 9 (.run 11 (.take 12 .done))))))))))))) (by kernel_rfl) (by kernel_rfl) ?_
          | refine brK_dec (fun _ => ?_) (fun _ => ?_)
          | refine brK_ndec (fun _ => ?_) (fun _ => ?_)
          | refine brK_not (fun _ => ?_) (fun _ => ?_)
          | refine brK_in (fun _ => ?_) (fun _ => ?_)
          | refine And.intro (by first | exact rfl | exact (tab_app hT) | exact ⟨_, rfl, rfl⟩ | exact ⟨rfl, rfl, rfl⟩ | exact of_decide_eq_true rfl | exact trivial | assumption | omega | (show (_ ≤ _ ∧ _ ≤ _); omega) | (simp; omega) | exact ⟨by first | omega | (simp; omega), _, rfl, rfl⟩) ?_
          | refine Both.mk (fun e => absurd (hq.symm.trans e) (by decide)) ?_
          | refine Both.mk ?_ (fun e => absurd (hq.symm.trans e) (by decide))
          | refine Both.mk ?_ ?_
          | refine Exists.intro _ (And.intro rfl ?_)
          | refine fun _ => ?_))
        | exact rfl)
      all_goals first
        | (exfalso; apply abs_link; assumption)
        | (conv => whnf)
      all_goals
        refine ⟨(), [3], trivial, ?_⟩
        repeat' (first
          | ((conv => whnf); (first
            | refine brK_dec (fun _ => ?_) (fun _ => ?_)
            | refine brK_ndec (fun _ => ?_) (fun _ => ?_)
            | refine brK_not (fun _ => ?_) (fun _ => ?_)
            | refine brK_in (fun _ => ?_) (fun _ => ?_)
            | refine And.intro (by first | exact rfl | exact ⟨_, rfl, rfl⟩ | exact ⟨rfl, rfl, rfl⟩ | exact of_decide_eq_true rfl | exact trivial | assumption | omega | (show (_ ≤ _ ∧ _ ≤ _); omega) | (simp; omega) | exact ⟨by first | omega | (simp; omega), _, rfl, rfl⟩) ?_
            | refine Both.mk ?_ ?_
            | refine Exists.intro _ (And.intro rfl ?_)
            | refine fun _ => ?_))
          | exact rfl)
    rintro _ -
    repeat' (first
      | ((conv => whnf); (first
        | refine draw_plan (id := 10) [] [] (.take 0 (.take 2 (.take 4 (.two 1 (.two 3 (.two 5 (.two 6 (.take 7 (.take 8 (.take 9 (.run 10 (.run 11 (.take 12 .done)))))) 10 (.run 6 (.take 7 (.take 8 (.take 9 (.run 11 (.take 12 .done))))))) 10 (.run 5 (.run 6 (.take 7 (.take 8 (.take 9 (.run 11 (.take 12 .done)))))))) 10 (.run 3 (.run 5 (.run 6 (.take 7 (.take 8 (.take 9 (.run 11 (.take 12 .done))))))))) 10 (.run 1 (.run 3 (.run 5 (.run 6 (.take 7 (.take 8 (.take 9 (.run 11 (.take 12 .done))))))))))))) (by kernel_rfl) (by kernel_rfl) ?_
        | refine draw_plan (id := 17) [] [] (.take 0 (.take 1 (.run 2 (.run 3 (.take 4 .done))))) (by kernel_rfl) (by kernel_rfl) ?_
        | refine draw_plan (id := 19) [] [] (.take 0 (.take 1 (.run 2 (.run 3 (.take 4 .done))))) (by kernel_rfl) (by kernel_rfl) ?_
        | refine draw_plan (id := 37) [] [] (.take 0 (.take 2 (.take 4 (.two 1 (.two 3 (.two 5 (.two 6 (.take 7 (.take 8 (.take 9 (.run 10 (.run 11 (.take 12 .done)))))) 10 (.run 6 (.take 7 (.take 8 (.take 9 (.run 11 (.take 12 .done))))))) 10 (.run 5 (.run 6 (.take 7 (.take 8 (.take 9 (.run 11 (.take 12 .done)))))))) 10 (.run 3 (.run 5 (.run 6 (.take 7 (.take 8 (.take 9 (.run 11 (.take 12 .done))))))))) 10 (.run 1 (.run 3 (.run 5 (.run 6 (.take 7 (.take 8 (.take 9 (.run 11 (.take 12 .done))))))))))))) (by kernel_rfl) (by kernel_rfl) ?_
        | refine brK_dec (fun _ => ?_) (fun _ => ?_)
        | refine brK_ndec (fun _ => ?_) (fun _ => ?_)
        | refine brK_not (fun _ => ?_) (fun _ => ?_)
        | refine brK_in (fun _ => ?_) (fun _ => ?_)
        | refine And.intro (by first | exact rfl | exact ⟨_, rfl, rfl⟩ | exact ⟨rfl, rfl, rfl⟩ | exact of_decide_eq_true rfl | exact trivial | assumption | omega | (show (_ ≤ _ ∧ _ ≤ _); omega) | (simp; omega) | exact ⟨by first | omega | (simp; omega), _, rfl, rfl⟩) ?_
        | refine Both.mk (fun e => absurd (hq.symm.trans e) (by decide)) ?_
        | refine Both.mk ?_ (fun e => absurd (hq.symm.trans e) (by decide))
        | refine Both.mk ?_ ?_
        | refine Exists.intro _ (And.intro rfl ?_)
        | refine fun _ => ?_))
      | exact rfl)
    all_goals first
      | exact h
      | (exfalso; omega)
      | (rename_i q; exact absurd rfl q)
end Go.Proofs.YtlhbdhccddadaaaDoor
