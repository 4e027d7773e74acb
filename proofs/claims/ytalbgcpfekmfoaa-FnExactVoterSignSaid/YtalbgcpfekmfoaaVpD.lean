/-
A vote cast, by the reference.
No conditions.
-/
import Derived.Test.YtalbgcpfekmfoaaVpC
import Derived.Test.YtalbgcpfekmfoaaVcMH
namespace Go.Proofs.Ytalbgcpfekmfoaa
open Go Go.Vc
set_option maxHeartbeats 4000000
set_option maxRecDepth 10000
def c_spec_l12Sign : Con := ⟨1, 0, false, fun xs hs _ K => match xs with
  | [.agg [.val (.int .i64 f), .sl 3 rows], .agg [.val (.int .i64 r), .val (.int .i64 a), .val (.int .i64 d)]] => hs = [] ∧ ∃ l : List VtD, rows = l.map VtD.row ∧ vrV f l = true ∧ K (.tup [.agg [I f, .own 0], B (signS f l ⟨r, a, d⟩).2]) [.arr 3 ((signS f l ⟨r, a, d⟩).1.map VtD.row)] []
  | _ => False⟩
theorem k_spec_l12Sign : Keeps' Try.prog 22 c_spec_l12Sign := by
  refine keeps_of_cuts mix TyT_ok (cok_cons k_spec_l12Before Try.func53 rfl rfl cok_nil) Try.func22 rfl rfl rfl [2, 7] ?_
  intro aargs hs Fs K h
  simp only [c_spec_l12Sign] at h
  split at h
  case h_2 => exact h.elim
  rename_i f rows r a d
  obtain ⟨rfl, l, rfl, hv, h⟩ := h
  have hlen : (l.map VtD.row).length = l.length := by simp
  obtain ⟨⟨f1, f2⟩, hll, hs, hall⟩ := vr_out hv
  refine cuts_step (by rfl) (fun _ : Unit => mkS 84 [(2, .ptr 0 0), (3, .ptr 1 0), (4, .ptr 2 0), (5, B false), (6, .ptr 3 0)] [.cells [I f, .sl 3 (l.map VtD.row)], .cells [I r, I a, I d], .cells [I 0, .val (.slice none 0 0)], .cells [I f, .own 4], .arr 3 (l.map VtD.row)] Fs) (fun _ => True) ?_ ?_
  · repeat' (first
      | ((conv => whnf); (first
        | refine draw_plan (id := 1) [] [8] (.take 0 (.take 1 (.take 3 (.take 4 (.two 2 (.two 5 (.take 6 (.run 7 (.run 8 .done))) 7 (.run 5 (.take 6 (.run 8 .done)))) 7 (.run 2 (.run 5 (.take 6 (.run 8 .done))))))))) (by kernel_rfl) (by kernel_rfl) ?_
        | refine draw_plan (id := 3) [] [] (.take 0 (.take 1 (.take 2 (.take 3 (.take 4 (.take 5 (.take 6 (.take 7 (.take 8 (.take 9 (.take 10 (.take 11 (.run 12 (.take 13 .done)))))))))))))) (by kernel_rfl) (by kernel_rfl) ?_
        | refine draw_plan (id := 5) [] [] (.take 0 (.take 1 (.take 2 (.take 3 (.take 4 (.take 5 (.take 6 (.take 7 (.take 8 (.take 9 (.take 10 (.take 11 (.run 12 (.take 13 (.take 14 .done))))))))))))))) (by kernel_rfl) (by kernel_rfl) ?_
        | refine draw_plan (id := 6) [] [] (.take 0 (.take 1 (.take 2 (.take 3 (.take 4 (.take 5 (.take 6 (.take 7 (.take 8 (.take 9 (.run 10 (.take 11 .done)))))))))))) (by kernel_rfl) (by kernel_rfl) ?_
        | refine draw_plan (id := 9) [] [15] (.take 1 (.take 2 (.take 3 (.take 4 (.take 6 (.take 9 (.take 10 (.take 11 (.take 12 (.two 0 (.two 5 (.run 7 (.run 8 (.run 13 (.take 14 (.run 15 .done))))) 7 (.run 5 (.run 8 (.run 13 (.take 14 (.run 15 .done)))))) 7 (.run 0 (.run 5 (.run 8 (.run 13 (.take 14 (.run 15 .done)))))))))))))))) (by kernel_rfl) (by kernel_rfl) ?_
        | refine brK_dec (fun _ => ?_) (fun _ => ?_)
        | refine brK_ndec (fun _ => ?_) (fun _ => ?_)
        | refine brK_not (fun _ => ?_) (fun _ => ?_)
        | refine brK_in (fun _ => ?_) (fun _ => ?_)
        | refine And.intro (by first | exact rfl | exact (by first | exact Nat.le_trans (Nat.mul_le_mul_right _ (show _ ≤ 1000 from by simp [chunks]; omega)) (by decide) | (simp [chunks]; omega)) | exact ⟨_, rfl, rfl⟩ | exact ⟨rfl, rfl, rfl⟩ | exact of_decide_eq_true rfl | exact trivial | assumption | omega | (show (_ ≤ _ ∧ _ ≤ _); omega) | (simp; omega) | exact ⟨by first | omega | (simp; omega), _, rfl, rfl⟩) ?_
        | refine Quo.l (And.intro (by first | exact rfl | exact (by first | exact Nat.le_trans (Nat.mul_le_mul_right _ (show _ ≤ 1000 from by simp [chunks]; omega)) (by decide) | (simp [chunks]; omega)) | assumption | omega | (simp; omega)) ?_)
        | refine Quo.r (And.intro (by omega) ?_)
        | refine Both.mk ?_ ?_
        | refine Exists.intro _ (And.intro rfl ?_)
        | refine optT_use (by assumption) ?_
        | refine trow_use (by assumption) ?_
        | refine trow_in (fun _ _ => ?_)
        | refine fun _ => ?_))
      | exact rfl)
    · refine ⟨(), [0, 1, 2, 4, 3], trivial, ?_⟩
      repeat' (first
        | ((conv => whnf); (first
          | refine brK_dec (fun _ => ?_) (fun _ => ?_)
          | refine brK_ndec (fun _ => ?_) (fun _ => ?_)
          | refine brK_not (fun _ => ?_) (fun _ => ?_)
          | refine brK_in (fun _ => ?_) (fun _ => ?_)
          | refine And.intro (by first | exact rfl | exact (by simp [chunks]) | exact ⟨_, rfl, rfl⟩ | exact ⟨rfl, rfl, rfl⟩ | exact of_decide_eq_true rfl | exact trivial | assumption | omega | (show (_ ≤ _ ∧ _ ≤ _); omega) | (simp; omega) | exact ⟨by first | omega | (simp; omega), _, rfl, rfl⟩) ?_
          | refine Quo.l (And.intro (by first | exact rfl | exact (by simp [chunks]) | assumption | omega | (simp; omega)) ?_)
          | refine Quo.r (And.intro (by omega) ?_)
          | refine Both.mk ?_ ?_
          | refine Exists.intro _ (And.intro rfl ?_)
          | refine optT_use (by assumption) ?_
          | refine trow_use (by assumption) ?_
          | refine trow_in (fun _ _ => ?_)
          | refine fun _ => ?_))
        | exact rfl)
    · refine ⟨(), [0, 1, 2, 4, 3], trivial, ?_⟩
      repeat' (first
        | ((conv => whnf); (first
          | refine brK_dec (fun _ => ?_) (fun _ => ?_)
          | refine brK_ndec (fun _ => ?_) (fun _ => ?_)
          | refine brK_not (fun _ => ?_) (fun _ => ?_)
          | refine brK_in (fun _ => ?_) (fun _ => ?_)
          | refine And.intro (by first | exact rfl | exact (by simp [chunks]) | exact ⟨_, rfl, rfl⟩ | exact ⟨rfl, rfl, rfl⟩ | exact of_decide_eq_true rfl | exact trivial | assumption | omega | (show (_ ≤ _ ∧ _ ≤ _); omega) | (simp; omega) | exact ⟨by first | omega | (simp; omega), _, rfl, rfl⟩) ?_
          | refine Quo.l (And.intro (by first | exact rfl | exact (by simp [chunks]) | assumption | omega | (simp; omega)) ?_)
          | refine Quo.r (And.intro (by omega) ?_)
          | refine Both.mk ?_ ?_
          | refine Exists.intro _ (And.intro rfl ?_)
          | refine optT_use (by assumption) ?_
          | refine trow_use (by assumption) ?_
          | refine trow_in (fun _ _ => ?_)
          | refine fun _ => ?_))
        | exact rfl)
    · refine ⟨(), [0, 1, 2, 3, 4], trivial, ?_⟩
      repeat' (first
        | ((conv => whnf); (first
          | refine brK_dec (fun _ => ?_) (fun _ => ?_)
          | refine brK_ndec (fun _ => ?_) (fun _ => ?_)
          | refine brK_not (fun _ => ?_) (fun _ => ?_)
          | refine brK_in (fun _ => ?_) (fun _ => ?_)
          | refine And.intro (by first | exact rfl | exact (by simp [chunks]) | exact ⟨_, rfl, rfl⟩ | exact ⟨rfl, rfl, rfl⟩ | exact of_decide_eq_true rfl | exact trivial | assumption | omega | (show (_ ≤ _ ∧ _ ≤ _); omega) | (simp; omega) | exact ⟨by first | omega | (simp; omega), _, rfl, rfl⟩) ?_
          | refine Quo.l (And.intro (by first | exact rfl | exact (by simp [chunks]) | assumption | omega | (simp; omega)) ?_)
          | refine Quo.r (And.intro (by omega) ?_)
          | refine Both.mk ?_ ?_
          | refine Exists.intro _ (And.intro rfl ?_)
          | refine optT_use (by assumption) ?_
          | refine trow_use (by assumption) ?_
          | refine trow_in (fun _ _ => ?_)
          | refine fun _ => ?_))
        | exact rfl)
  rintro - -
  refine cuts_step (by rfl) (fun i : Nat => mkS 84 [(2, .ptr 0 0), (3, .ptr 1 0), (4, .ptr 2 0), (5, B false), (6, .ptr 3 0), (7, I i)] [.cells [I f, .sl 3 (l.map VtD.row)], .cells [I r, I a, I d], .cells [I 0, .val (.slice none 0 0)], .cells [I f, .own 4], .arr 3 (l.map VtD.row)] Fs) (fun i => i ≤ l.length ∧ (∀ (j : Nat) u, j < i → l[j]? = some u → tltB u ⟨r, a, d⟩ = true) ∧ ∀ u, l[i]? = some u → VtD.lt ⟨r, a, d⟩ u) ?_ ?_
  · repeat' (first
      | ((conv => whnf); (first
        | refine draw_plan (id := 1) [] [8] (.take 0 (.take 1 (.take 3 (.take 4 (.two 2 (.two 5 (.take 6 (.run 7 (.run 8 .done))) 7 (.run 5 (.take 6 (.run 8 .done)))) 7 (.run 2 (.run 5 (.take 6 (.run 8 .done))))))))) (by kernel_rfl) (by kernel_rfl) ?_
        | refine draw_plan (id := 3) [] [] (.take 0 (.take 1 (.take 2 (.take 3 (.take 4 (.take 5 (.take 6 (.take 7 (.take 8 (.take 9 (.take 10 (.take 11 (.run 12 (.take 13 .done)))))))))))))) (by kernel_rfl) (by kernel_rfl) ?_
        | refine draw_plan (id := 5) [] [] (.take 0 (.take 1 (.take 2 (.take 3 (.take 4 (.take 5 (.take 6 (.take 7 (.take 8 (.take 9 (.take 10 (.take 11 (.run 12 (.take 13 (.take 14 .done))))))))))))))) (by kernel_rfl) (by kernel_rfl) ?_
        | refine draw_plan (id := 6) [] [] (.take 0 (.take 1 (.take 2 (.take 3 (.take 4 (.take 5 (.take 6 (.take 7 (.take 8 (.take 9 (.run 10 (.take 11 .done)))))))))))) (by kernel_rfl) (by kernel_rfl) ?_
        | refine draw_plan (id := 9) [] [15] (.take 1 (.take 2 (.take 3 (.take 4 (.take 6 (.take 9 (.take 10 (.take 11 (.take 12 (.two 0 (.two 5 (.run 7 (.run 8 (.run 13 (.take 14 (.run 15 .done))))) 7 (.run 5 (.run 8 (.run 13 (.take 14 (.run 15 .done)))))) 7 (.run 0 (.run 5 (.run 8 (.run 13 (.take 14 (.run 15 .done)))))))))))))))) (by kernel_rfl) (by kernel_rfl) ?_
        | refine brK_dec (fun _ => ?_) (fun _ => ?_)
        | refine brK_ndec (fun _ => ?_) (fun _ => ?_)
        | refine brK_not (fun _ => ?_) (fun _ => ?_)
        | refine brK_in (fun _ => ?_) (fun _ => ?_)
        | refine And.intro (by first | exact rfl | exact ⟨_, rfl, rfl⟩ | exact ⟨rfl, rfl, rfl⟩ | exact of_decide_eq_true rfl | exact trivial | assumption | omega | (show (_ ≤ _ ∧ _ ≤ _); omega) | (simp; omega) | exact ⟨by first | omega | (simp; omega), _, rfl, rfl⟩) ?_
        | refine Quo.l (And.intro (by first | exact rfl | assumption | omega | (simp; omega)) ?_)
        | refine Quo.r (And.intro (by omega) ?_)
        | refine Both.mk ?_ ?_
        | refine Exists.intro _ (And.intro rfl ?_)
        | refine optT_use (by assumption) ?_
        | refine trow_use (by assumption) ?_
        | refine trow_in (fun _ _ => ?_)
        | refine fun _ => ?_))
      | exact rfl)
    refine loop_in (ι := Nat) (fun i => mkS 84 [(2, .ptr 0 0), (3, .ptr 1 0), (4, .ptr 2 0), (5, B false), (6, .ptr 3 0), (7, I i)] [.cells [I f, .sl 3 (l.map VtD.row)], .cells [I r, I a, I d], .cells [I 0, .val (.slice none 0 0)], .cells [I f, .own 4], .arr 3 (l.map VtD.row)] Fs) (fun i => i ≤ l.length ∧ ∀ (j : Nat) u, j < i → l[j]? = some u → tltB u ⟨r, a, d⟩ = true) (fun i => l.length - i) 0 [0, 1, 2, 3, 4] ⟨Nat.zero_le _, fun j u hj => absurd hj (by omega)⟩ ?_ ?_
    · repeat' (first
        | ((conv => whnf); (first
          | refine brK_dec (fun _ => ?_) (fun _ => ?_)
          | refine brK_ndec (fun _ => ?_) (fun _ => ?_)
          | refine brK_not (fun _ => ?_) (fun _ => ?_)
          | refine brK_in (fun _ => ?_) (fun _ => ?_)
          | refine And.intro (by first | exact rfl | exact ⟨_, rfl, rfl⟩ | exact ⟨rfl, rfl, rfl⟩ | exact of_decide_eq_true rfl | exact trivial | assumption | omega | (show (_ ≤ _ ∧ _ ≤ _); omega) | (simp; omega) | exact ⟨by first | omega | (simp; omega), _, rfl, rfl⟩) ?_
          | refine Quo.l (And.intro (by first | exact rfl | assumption | omega | (simp; omega)) ?_)
          | refine Quo.r (And.intro (by omega) ?_)
          | refine Both.mk ?_ ?_
          | refine Exists.intro _ (And.intro rfl ?_)
          | refine optT_use (by assumption) ?_
          | refine trow_use (by assumption) ?_
          | refine trow_in (fun _ _ => ?_)
          | refine fun _ => ?_))
        | exact rfl)
    intro i ⟨hi, hlt⟩
    have hlt2 : ∀ (j : Nat) u, j < i → l[j]? = some u → u.lt ⟨r, a, d⟩ := fun j u hj hu => tltB_iff.1 (hlt j u hj hu)
    repeat' (first
      | ((conv => whnf); (first
        | refine draw_plan (id := 1) [] [8] (.take 0 (.take 1 (.take 3 (.take 4 (.two 2 (.two 5 (.take 6 (.run 7 (.run 8 .done))) 7 (.run 5 (.take 6 (.run 8 .done)))) 7 (.run 2 (.run 5 (.take 6 (.run 8 .done))))))))) (by kernel_rfl) (by kernel_rfl) ?_
        | refine draw_plan (id := 3) [] [] (.take 0 (.take 1 (.take 2 (.take 3 (.take 4 (.take 5 (.take 6 (.take 7 (.take 8 (.take 9 (.take 10 (.take 11 (.run 12 (.take 13 .done)))))))))))))) (by kernel_rfl) (by kernel_rfl) ?_
        | refine draw_plan (id := 5) [] [] (.take 0 (.take 1 (.take 2 (.take 3 (.take 4 (.take 5 (.take 6 (.take 7 (.take 8 (.take 9 (.take 10 (.take 11 (.run 12 (.take 13 (.take 14 .done))))))))))))))) (by kernel_rfl) (by kernel_rfl) ?_
        | refine draw_plan (id := 6) [2] [] (.take 0 (.take 1 (.take 2 (.take 3 (.take 4 (.take 5 (.take 6 (.take 7 (.take 8 (.take 9 (.run 10 (.take 11 .done)))))))))))) (by kernel_rfl) (by kernel_rfl) ?_
        | refine draw_plan (id := 9) [] [15] (.take 1 (.take 2 (.take 3 (.take 4 (.take 6 (.take 9 (.take 10 (.take 11 (.take 12 (.two 0 (.two 5 (.run 7 (.run 8 (.run 13 (.take 14 (.run 15 .done))))) 7 (.run 5 (.run 8 (.run 13 (.take 14 (.run 15 .done)))))) 7 (.run 0 (.run 5 (.run 8 (.run 13 (.take 14 (.run 15 .done)))))))))))))))) (by kernel_rfl) (by kernel_rfl) ?_
        | refine brK_dec (fun _ => ?_) (fun _ => ?_)
        | refine brK_ndec (fun _ => ?_) (fun _ => ?_)
        | refine brK_not (fun _ => ?_) (fun _ => ?_)
        | refine brK_in (fun _ => ?_) (fun _ => ?_)
        | refine And.intro (by first | exact rfl | exact (by first | exact Nat.le_trans (Nat.mul_le_mul_right _ (show _ ≤ 1000 from by simp [chunks]; omega)) (by decide) | (simp; omega)) | exact ⟨_, rfl, rfl⟩ | exact ⟨rfl, rfl, rfl⟩ | exact of_decide_eq_true rfl | exact trivial | assumption | omega | (show (_ ≤ _ ∧ _ ≤ _); omega) | (simp; omega) | exact ⟨by first | omega | (simp; omega), _, rfl, rfl⟩) ?_
        | refine Quo.l (And.intro (by first | exact rfl | exact (by first | exact Nat.le_trans (Nat.mul_le_mul_right _ (show _ ≤ 1000 from by simp [chunks]; omega)) (by decide) | (simp; omega)) | assumption | omega | (simp; omega)) ?_)
        | refine Quo.r (And.intro (by omega) ?_)
        | refine Both.mk ?_ ?_
        | refine Exists.intro _ (And.intro rfl ?_)
        | refine optT_use (by assumption) ?_
        | refine trow_use (by assumption) ?_
        | refine trow_in (fun _ _ => ?_)
        | refine fun _ => ?_))
      | exact rfl)
    · rename_i hil v hv e
      have hv : l[i]? = some v := hv
      have e : tltB v ⟨r, a, d⟩ = true := e
      refine ⟨i + 1, [0, 1, 2, 3, 4], ⟨by omega, fun j u hj hu => ?_⟩, by omega, ?_⟩
      · rcases Nat.lt_or_ge j i with h1 | h1
        · exact hlt j u h1 hu
        · obtain rfl : j = i := by omega
          rw [hv] at hu
          cases hu
          exact e
      repeat' (first
        | ((conv => whnf); (first
          | refine brK_dec (fun _ => ?_) (fun _ => ?_)
          | refine brK_ndec (fun _ => ?_) (fun _ => ?_)
          | refine brK_not (fun _ => ?_) (fun _ => ?_)
          | refine brK_in (fun _ => ?_) (fun _ => ?_)
          | refine And.intro (by first | exact rfl | exact ⟨_, rfl, rfl⟩ | exact ⟨rfl, rfl, rfl⟩ | exact of_decide_eq_true rfl | exact trivial | assumption | omega | (show (_ ≤ _ ∧ _ ≤ _); omega) | (simp; omega) | exact ⟨by first | omega | (simp; omega), _, rfl, rfl⟩) ?_
          | refine Quo.l (And.intro (by first | exact rfl | assumption | omega | (simp; omega)) ?_)
          | refine Quo.r (And.intro (by omega) ?_)
          | refine Both.mk ?_ ?_
          | refine Exists.intro _ (And.intro rfl ?_)
          | refine optT_use (by assumption) ?_
          | refine trow_use (by assumption) ?_
          | refine trow_in (fun _ _ => ?_)
          | refine fun _ => ?_))
        | exact rfl)
    · rename_i hil v hv e _ e2
      have hv : l[i]? = some v := hv
      have e : tltB v ⟨r, a, d⟩ = false := e
      have e2 : tltB ⟨r, a, d⟩ v = false := e2
      have e3 : signS f l ⟨r, a, d⟩ = (l, decide (v.d = d)) := by
        unfold signS
        rw [find_atT hv (same_of (tltB_no.1 e) (tltB_no.1 e2)) fun j w hj hw => lt_notsame (hlt2 j w hj hw)]
      rw [e3] at h
      exact ⟨⟨rfl, by simp [roFreeB, VtD.row, roFreeC], rfl⟩, h⟩
    · rename_i hil v hv e _ e2
      have hv : l[i]? = some v := hv
      refine ⟨i, [0, 1, 2, 3, 4], ⟨hi, hlt, fun u hu => ?_⟩, ?_⟩
      · rw [hv] at hu
        cases hu
        exact tltB_iff.1 e2
      repeat' (first
        | ((conv => whnf); (first
          | refine brK_dec (fun _ => ?_) (fun _ => ?_)
          | refine brK_ndec (fun _ => ?_) (fun _ => ?_)
          | refine brK_not (fun _ => ?_) (fun _ => ?_)
          | refine brK_in (fun _ => ?_) (fun _ => ?_)
          | refine And.intro (by first | exact rfl | exact ⟨_, rfl, rfl⟩ | exact ⟨rfl, rfl, rfl⟩ | exact of_decide_eq_true rfl | exact trivial | assumption | omega | (show (_ ≤ _ ∧ _ ≤ _); omega) | (simp; omega) | exact ⟨by first | omega | (simp; omega), _, rfl, rfl⟩) ?_
          | refine Quo.l (And.intro (by first | exact rfl | assumption | omega | (simp; omega)) ?_)
          | refine Quo.r (And.intro (by omega) ?_)
          | refine Both.mk ?_ ?_
          | refine Exists.intro _ (And.intro rfl ?_)
          | refine optT_use (by assumption) ?_
          | refine trow_use (by assumption) ?_
          | refine trow_in (fun _ _ => ?_)
          | refine fun _ => ?_))
        | exact rfl)
    · exfalso
      omega
    · exfalso
      omega
    · exfalso
      omega
    · rename_i hil _
      refine ⟨i, [0, 1, 2, 3, 4], ⟨hi, hlt, fun u hu => ?_⟩, ?_⟩
      · have := (List.getElem?_eq_some_iff.1 hu).1
        omega
      repeat' (first
        | ((conv => whnf); (first
          | refine brK_dec (fun _ => ?_) (fun _ => ?_)
          | refine brK_ndec (fun _ => ?_) (fun _ => ?_)
          | refine brK_not (fun _ => ?_) (fun _ => ?_)
          | refine brK_in (fun _ => ?_) (fun _ => ?_)
          | refine And.intro (by first | exact rfl | exact ⟨_, rfl, rfl⟩ | exact ⟨rfl, rfl, rfl⟩ | exact of_decide_eq_true rfl | exact trivial | assumption | omega | (show (_ ≤ _ ∧ _ ≤ _); omega) | (simp; omega) | exact ⟨by first | omega | (simp; omega), _, rfl, rfl⟩) ?_
          | refine Quo.l (And.intro (by first | exact rfl | assumption | omega | (simp; omega)) ?_)
          | refine Quo.r (And.intro (by omega) ?_)
          | refine Both.mk ?_ ?_
          | refine Exists.intro _ (And.intro rfl ?_)
          | refine optT_use (by assumption) ?_
          | refine trow_use (by assumption) ?_
          | refine trow_in (fun _ _ => ?_)
          | refine fun _ => ?_))
        | exact rfl)
  rintro i ⟨hi, hlt, h2⟩
  have hlt2 : ∀ (j : Nat) u, j < i → l[j]? = some u → u.lt ⟨r, a, d⟩ := fun j u hj hu => tltB_iff.1 (hlt j u hj hu)
  have fin0 : (r < f ∨ 40 ≤ l.length) → K (.tup [.agg [I f, .own 0], B false]) [.arr 3 (l.map VtD.row)] [] := by
    intro hc
    have e : signS f l ⟨r, a, d⟩ = (l, false) := by
      unfold signS
      rw [find_noT (no_same hs hlt2 h2)]
      exact if_pos hc
    rw [e] at h
    exact h
  have fin1 : ¬ (r < f ∨ 40 ≤ l.length) → ∀ R, R = (l.take i).map VtD.row ++ VtD.row ⟨r, a, d⟩ :: (l.drop i).map VtD.row →
      roK c_spec_l12Sign.alias (.tup [.agg [I f, .own 0], B true]) [.arr 3 R] [] (K (.tup [.agg [I f, .own 0], B true]) [.arr 3 R] []) := by
    intro hc R hR
    have e : signS f l ⟨r, a, d⟩ = (insT l ⟨r, a, d⟩, true) := by
      unfold signS
      rw [find_noT (no_same hs hlt2 h2)]
      exact if_neg hc
    have hp : plcT l ⟨r, a, d⟩ = i := plcT_is hi hlt fun u hu => tltB_no.2 fun q => VtD.lt_irrefl (VtD.lt_trans q (h2 u hu))
    have hR2 : R = (insT l ⟨r, a, d⟩).map VtD.row := by
      rw [hR, insT, hp, List.map_append, List.map_cons]
    rw [e] at h
    rw [hR2]
    exact ⟨⟨rfl, by simp [roFreeB, VtD.row, roFreeC], rfl⟩, h⟩
  have g1 : List.take (min i l.length) (List.take i (l.map VtD.row)) = List.take i (l.map VtD.row) := List.take_of_length_le (by simp)
  have g2 : List.take (l.length - i) (List.drop i (l.map VtD.row)) = List.drop i (l.map VtD.row) := List.take_of_length_le (by simp)
  have g3 : ∀ x : List AV, List.take (min i l.length + 1) (List.take i (l.map VtD.row) ++ [x]) = List.take i (l.map VtD.row) ++ [x] := fun x => List.take_of_length_le (by simp)
  repeat' (first
    | ((conv => whnf); (first
      | refine draw_plan (id := 1) [] [8] (.take 0 (.take 1 (.take 3 (.take 4 (.two 2 (.two 5 (.take 6 (.run 7 (.run 8 .done))) 7 (.run 5 (.take 6 (.run 8 .done)))) 7 (.run 2 (.run 5 (.take 6 (.run 8 .done))))))))) (by kernel_rfl) (by kernel_rfl) ?_
      | refine draw_plan (id := 3) [] [] (.take 0 (.take 1 (.take 2 (.take 3 (.take 4 (.take 5 (.take 6 (.take 7 (.take 8 (.take 9 (.take 10 (.take 11 (.run 12 (.take 13 .done)))))))))))))) (by kernel_rfl) (by kernel_rfl) ?_
      | refine draw_plan (id := 5) [] [] (.take 0 (.take 1 (.take 2 (.take 3 (.take 4 (.take 5 (.take 6 (.take 7 (.take 8 (.take 9 (.take 10 (.take 11 (.run 12 (.take 13 (.take 14 .done))))))))))))))) (by kernel_rfl) (by kernel_rfl) ?_
      | refine draw_plan (id := 6) [] [] (.take 0 (.take 1 (.take 2 (.take 3 (.take 4 (.take 5 (.take 6 (.take 7 (.take 8 (.take 9 (.run 10 (.take 11 .done)))))))))))) (by kernel_rfl) (by kernel_rfl) ?_
      | refine draw_plan (id := 9) [] [15] (.take 1 (.take 2 (.take 3 (.take 4 (.take 6 (.take 9 (.take 10 (.take 11 (.take 12 (.two 0 (.two 5 (.run 7 (.run 8 (.run 13 (.take 14 (.run 15 .done))))) 7 (.run 5 (.run 8 (.run 13 (.take 14 (.run 15 .done)))))) 7 (.run 0 (.run 5 (.run 8 (.run 13 (.take 14 (.run 15 .done)))))))))))))))) (by kernel_rfl) (by kernel_rfl) ?_
      | refine brK_dec (fun _ => ?_) (fun _ => ?_)
      | refine brK_ndec (fun _ => ?_) (fun _ => ?_)
      | refine brK_not (fun _ => ?_) (fun _ => ?_)
      | refine brK_in (fun _ => ?_) (fun _ => ?_)
      | refine And.intro (by first | exact rfl | exact (by first | exact Nat.le_trans (Nat.mul_le_mul_right _ (show _ ≤ 1000 from by simp [chunks]; omega)) (by decide) | (simp [chunks]; omega)) | exact ⟨_, rfl, rfl⟩ | exact ⟨rfl, rfl, rfl⟩ | exact of_decide_eq_true rfl | exact trivial | assumption | omega | (show (_ ≤ _ ∧ _ ≤ _); omega) | (simp; omega) | exact ⟨by first | omega | (simp; omega), _, rfl, rfl⟩) ?_
      | refine Quo.l (And.intro (by first | exact rfl | exact (by first | exact Nat.le_trans (Nat.mul_le_mul_right _ (show _ ≤ 1000 from by simp [chunks]; omega)) (by decide) | (simp [chunks]; omega)) | assumption | omega | (simp; omega)) ?_)
      | refine Quo.r (And.intro (by omega) ?_)
      | refine Both.mk ?_ ?_
      | refine Exists.intro _ (And.intro rfl ?_)
      | refine optT_use (by assumption) ?_
      | refine trow_use (by assumption) ?_
      | refine trow_in (fun _ _ => ?_)
      | refine fun _ => ?_))
    | exact rfl)
  · rename_i q
    exact ⟨⟨rfl, by simp [roFreeB, VtD.row, roFreeC], rfl⟩, fin0 (.inl q)⟩
  · rename_i q1 q
    exact ⟨⟨rfl, by simp [roFreeB, VtD.row, roFreeC], rfl⟩, fin0 (.inr (by omega))⟩
  all_goals
    rename_i q1 q
    refine fin1 (by omega) _ ?_
    simp only [chunks, List.length_nil, List.take_nil, List.nil_append, List.length_take, List.length_map, List.length_append, List.length_cons, Int.toNat_natCast, Nat.sub_zero, List.drop_zero, Nat.zero_add, Nat.min_self]
    rw [g1, g2, g3, List.map_take, List.map_drop, List.append_assoc]
    rfl
def c_spec_VoterSign : Con := ⟨1, 0, false, fun xs hs _ K => match xs with
  | [.agg [.val (.int .i64 f), .sl 3 rows], .agg [.val (.int .i64 r), .val (.int .i64 a), .val (.int .i64 d)]] => hs = [] ∧ ∃ l : List VtD, rows = l.map VtD.row ∧ l.length < 2000000 ∧
      Both ((vrV f l && vtV ⟨r, a, d⟩) = true → K (.tup [.agg [I f, .own 0], B (signS f l ⟨r, a, d⟩).2]) [.arr 3 ((signS f l ⟨r, a, d⟩).1.map VtD.row)] [])
        ((vrV f l && vtV ⟨r, a, d⟩) = false → K (.tup [.agg [I 0, .val (.slice none 0 0)], B false]) [] [])
  | _ => False⟩
theorem k_spec_VoterSign : Keeps' Try.prog 6 c_spec_VoterSign := by
  refine keeps_of_vc mix TyT_ok (cok_cons k_spec_VoterValid Try.func20 rfl rfl (cok_cons k_spec_l12Vote Try.func21 rfl rfl (cok_cons k_spec_l12Sign Try.func22 rfl rfl cok_nil))) Try.func6 rfl rfl rfl ?_
  intro aargs hs Fs K h
  simp only [c_spec_VoterSign] at h
  split at h
  case h_2 => exact h.elim
  rename_i f rows r a d
  obtain ⟨rfl, l, rfl, hl, hy, hn⟩ := h
  repeat' (first
    | ((conv => whnf); (first
      | refine brK_dec (fun _ => ?_) (fun _ => ?_)
      | refine brK_ndec (fun _ => ?_) (fun _ => ?_)
      | refine brK_not (fun _ => ?_) (fun _ => ?_)
      | refine brK_in (fun _ => ?_) (fun _ => ?_)
      | refine And.intro (by first | exact rfl | exact ⟨_, rfl, rfl⟩ | exact ⟨rfl, rfl, rfl⟩ | exact of_decide_eq_true rfl | exact trivial | assumption | omega | (show (_ ≤ _ ∧ _ ≤ _); omega) | (simp; omega) | exact ⟨by first | omega | (simp; omega), _, rfl, rfl⟩) ?_
      | refine Quo.l (And.intro (by first | exact rfl | assumption | omega | (simp; omega)) ?_)
      | refine Quo.r (And.intro (by omega) ?_)
      | refine Both.mk ?_ ?_
      | refine Exists.intro _ (And.intro rfl ?_)
      | refine optT_use (by assumption) ?_
      | refine trow_use (by assumption) ?_
      | refine trow_in (fun _ _ => ?_)
      | refine fun _ => ?_))
    | exact rfl)
  · rename_i q
    exact hn (by rw [q, Bool.false_and])
  · rename_i q q2
    exact hn (by rw [q, q2]; rfl)
  · rename_i q q2
    exact ⟨⟨rfl, by simp [roFreeB, VtD.row, roFreeC], rfl⟩, hy (by rw [q, q2]; rfl)⟩
end Go.Proofs.Ytalbgcpfekmfoaa
