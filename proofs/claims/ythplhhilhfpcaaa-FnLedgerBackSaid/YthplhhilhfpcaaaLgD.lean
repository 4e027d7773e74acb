/-
The laws on one transaction: their contracts.
No conditions.
-/
import Derived.Test.YthplhhilhfpcaaaLgC
namespace Go.Proofs.Ythplhhilhfpcaaa
open Go Go.Vc
set_option maxHeartbeats 4000000
set_option maxRecDepth 10000
theorem applyP_get {b l : List Int} {fe f t s e g : Int} (h : applyP b fe f t s e = (l, g, true)) : l.length = b.length ∧ g = fe + e ∧ txV f t s e = true ∧ s + e ≤ getL b f ∧ getL b t + s ≤ 999 ∧ l = (b.set f.toNat (getL b f - (s + e))).set t.toNat (getL b t + s) := by
  unfold applyP at h
  split at h
  · rename_i hc
    simp only [Bool.and_eq_true, decide_eq_true_eq] at hc
    simp only [Prod.mk.injEq, and_true] at h
    obtain ⟨rfl, rfl⟩ := h
    exact ⟨by simp, rfl, hc.1, hc.2.1, hc.2.2, rfl⟩
  · simp at h
theorem applyP_no {b l : List Int} {fe f t s e g : Int} (h : applyP b fe f t s e = (l, g, false)) : l = b ∧ g = fe := by
  unfold applyP at h
  split at h
  · simp at h
  · simp only [Prod.mk.injEq, and_true] at h
    exact ⟨h.1.symm, h.2.symm⟩
theorem applyP_tx {b l : List Int} {fe f t s e g : Int} {d : Bool} (h : applyP b fe f t s e = (l, g, d)) (hx : txV f t s e = false) : d = false := by
  simp [applyP, hx] at h
  exact h.2.2
theorem applyP_d {b l : List Int} {fe f t s e g x y : Int} {d : Bool} (h : applyP b fe f t s e = (l, g, d)) (htx : txV f t s e = true) (hx : b[f.toNat]? = some x) (hy : b[t.toNat]? = some y) : d = (decide (s + e ≤ x) && decide (y + s ≤ 999)) := by
  have e1 := getL_of hx
  have e2 := getL_of hy
  unfold applyP at h
  rw [e1, e2, htx, Bool.true_and] at h
  split at h
  · rename_i hc
    simp only [Prod.mk.injEq] at h
    rw [hc]; exact h.2.2.symm
  · rename_i hc
    simp only [Prod.mk.injEq] at h
    rw [← h.2.2]
    exact (Bool.eq_false_iff.2 hc).symm
theorem applyP_d0 {b l : List Int} {fe f t s e g x : Int} {d : Bool} (h : applyP b fe f t s e = (l, g, d)) (hx : b[f.toNat]? = some x) (hn : ¬ s + e ≤ x) : d = false := by
  have e1 := getL_of hx
  unfold applyP at h
  rw [e1, decide_eq_false hn] at h
  simp at h
  exact h.2.2
theorem fin_no {K : AV → List AO → List Fam → Prop} {b l : List Int} {fe f t s e g : Int} {d : Bool} (ha : applyP b fe f t s e = (l, g, d)) (hd : d = false) (h : K (B true) [] []) : K (B (decide (g = fe ∧ l = b))) [] [] := by
  subst hd
  obtain ⟨rfl, rfl⟩ := applyP_no ha
  simpa using h
theorem roomV_out {b : List Int} {f : Int} (h : roomV b f = true) : ledV b f = true ∧ f ≤ 5985 := by simpa [roomV] using h
def c_laws_FnLedgerFail : Con := ⟨0, 0, false, fun xs hs _ K => match xs with
  | [.bytes b] => hs = [] ∧ b.length ≤ 9223372036854775807 ∧ K (B true) [] []
  | _ => False⟩
theorem k_laws_FnLedgerFail : Keeps' Try.prog 6 c_laws_FnLedgerFail := by
  refine keeps_of_vc mix TyT_ok (cok_cons k_spec_DrawLedgerApply Try.func17 rfl rfl (cok_cons k_impl_LedgerApply Try.func18 rfl rfl (cok_cons k_spec_LedgerApply Try.func19 rfl rfl (cok_cons (keeps_nil k_laws_sameLedger) Try.func20 rfl rfl (cok_cons k_impl_TxnValid Try.func21 rfl rfl cok_nil))))) Try.func6 rfl rfl rfl ?_
  intro aargs hs Fs K h
  simp only [c_laws_FnLedgerFail] at h
  split at h
  case h_2 => exact h.elim
  rename_i b
  obtain ⟨rfl, hb, h⟩ := h
  have big : ∀ {l : List Int}, l.length = 6 → l.length < 2000000 := fun h => by omega
  repeat' (first
    | ((conv => whnf); (first
      | refine draw_plan (id := 8) [] [] (.take 0 (.run 1 (.take 2 (.take 3 (.take 4 (.take 5 (.take 6 (.take 7 (.take 8 (.take 9 (.take 10 (.take 11 (.take 12 (.take 13 (.take 14 (.take 15 (.take 16 (.take 17 (.take 18 (.take 19 (.take 20 (.take 21 (.take 22 (.take 23 (.take 24 (.take 25 (.take 26 (.take 27 (.take 28 .done))))))))))))))))))))))))))))) (by kernel_rfl) (by kernel_rfl) ?_
      | refine brK_dec (fun _ => ?_) (fun _ => ?_)
      | refine brK_ndec (fun _ => ?_) (fun _ => ?_)
      | refine brK_not (fun _ => ?_) (fun _ => ?_)
      | refine brK_in (fun _ => ?_) (fun _ => ?_)
      | refine And.intro (by first | exact rfl | exact ⟨_, rfl, rfl⟩ | exact ⟨rfl, rfl, rfl⟩ | exact of_decide_eq_true rfl | exact trivial | assumption | omega | (show (_ ≤ _ ∧ _ ≤ _); omega) | (simp; omega) | exact ⟨by first | omega | (simp; omega), _, rfl, rfl⟩) ?_
      | refine Both.mk ?_ ?_
      | refine Exists.intro _ (And.intro rfl ?_)
      | refine fun _ => ?_))
    | exact rfl)
  all_goals first
    | exact h
    | (exfalso; simp_all; done)
    | skip
  · rename_i l fe f t s e hl r1 l1 g1 d1 a1 n1 r2 l2 g2 d2 a2 n2 hd hg hz htx
    obtain ⟨t1, t2, t3, t4, t5, t6, t7, t8, t9⟩ := txV_out htx
    obtain ⟨q1, q2, q3, q4⟩ := ledV_out (roomV_out r1).1
    repeat' (first
      | ((conv => whnf); (first
        | refine draw_plan (id := 8) [] [] (.take 0 (.run 1 (.take 2 (.take 3 (.take 4 (.take 5 (.take 6 (.take 7 (.take 8 (.take 9 (.take 10 (.take 11 (.take 12 (.take 13 (.take 14 (.take 15 (.take 16 (.take 17 (.take 18 (.take 19 (.take 20 (.take 21 (.take 22 (.take 23 (.take 24 (.take 25 (.take 26 (.take 27 (.take 28 .done))))))))))))))))))))))))))))) (by kernel_rfl) (by kernel_rfl) ?_
        | refine brK_dec (fun _ => ?_) (fun _ => ?_)
        | refine brK_ndec (fun _ => ?_) (fun _ => ?_)
        | refine brK_not (fun _ => ?_) (fun _ => ?_)
        | refine brK_in (fun _ => ?_) (fun _ => ?_)
        | refine And.intro (by first | exact rfl | exact (rng_bal q4 (by assumption) (by omega)) | exact ⟨_, rfl, rfl⟩ | exact ⟨rfl, rfl, rfl⟩ | exact of_decide_eq_true rfl | exact trivial | assumption | omega | (show (_ ≤ _ ∧ _ ≤ _); omega) | (simp; omega) | exact ⟨by first | omega | (simp; omega), _, rfl, rfl⟩) ?_
        | refine Both.mk ?_ ?_
        | refine Exists.intro _ (And.intro rfl ?_)
        | refine fun _ => ?_))
      | exact rfl)
    all_goals first
      | exact h
      | exact fin_no a1 (by assumption) h
      | (exact fin_no a1 (by assumption) h)
      | (rename_i x hx hle y hy hne; exact absurd (by rw [applyP_d a1 htx (by simpa using hx) (by simpa using hy)]; simp [hle]) hne)
      | (rename_i x hx hle hne; exact absurd (applyP_d0 a1 (by simpa using hx) hle) hne)
      | (exfalso; simp_all; done)
  · exact fin_no (by assumption) (by assumption) h
  · rename_i l fe f t s e hl r1 l1 g1 d1 a1 n1 r2 l2 g2 d2 a2 n2 hd hg hz htx hne
    exact absurd (applyP_tx a1 htx) hne
  · rename_i l fe f t s e hl m hm r1 l1 g1 d1 a1 n1 r2 l2 g2 d2 a2 n2 hd hg hz htx
    obtain ⟨t1, t2, t3, t4, t5, t6, t7, t8, t9⟩ := txV_out htx
    obtain ⟨q1, q2, q3, q4⟩ := ledV_out (roomV_out r1).1
    obtain rfl : m = 6 := by
      rw [List.drop_zero, List.length_take] at q1
      omega
    have em : List.take (6 - 0) (List.drop 0 l) = l := by
      rw [List.drop_zero]
      exact List.take_of_length_le (by omega)
    rw [em] at a1 a2 q1 q4
    repeat' (first
      | ((conv => whnf); (first
        | refine draw_plan (id := 8) [] [] (.take 0 (.run 1 (.take 2 (.take 3 (.take 4 (.take 5 (.take 6 (.take 7 (.take 8 (.take 9 (.take 10 (.take 11 (.take 12 (.take 13 (.take 14 (.take 15 (.take 16 (.take 17 (.take 18 (.take 19 (.take 20 (.take 21 (.take 22 (.take 23 (.take 24 (.take 25 (.take 26 (.take 27 (.take 28 .done))))))))))))))))))))))))))))) (by kernel_rfl) (by kernel_rfl) ?_
        | refine brK_dec (fun _ => ?_) (fun _ => ?_)
        | refine brK_ndec (fun _ => ?_) (fun _ => ?_)
        | refine brK_not (fun _ => ?_) (fun _ => ?_)
        | refine brK_in (fun _ => ?_) (fun _ => ?_)
        | refine And.intro (by first | exact rfl | exact (rng_bal q4 (by assumption) (by omega)) | exact ⟨_, rfl, rfl⟩ | exact ⟨rfl, rfl, rfl⟩ | exact of_decide_eq_true rfl | exact trivial | assumption | omega | (show (_ ≤ _ ∧ _ ≤ _); omega) | (simp; omega) | exact ⟨by first | omega | (simp; omega), _, rfl, rfl⟩) ?_
        | refine Both.mk ?_ ?_
        | refine Exists.intro _ (And.intro rfl ?_)
        | refine fun _ => ?_))
      | exact rfl)
    all_goals first
      | exact h
      | exact fin_no a1 (by assumption) h
      | (rw [em]; exact fin_no a1 (by assumption) h)
      | (rename_i x hx hle y hy hne; exact absurd (by rw [applyP_d a1 htx (by simpa using hx) (by simpa using hy)]; simp [hle]) hne)
      | (rename_i x hx hle hne; exact absurd (applyP_d0 a1 (by simpa using hx) hle) hne)
      | (exfalso; simp_all; done)
  · exact fin_no (by assumption) (by assumption) h
  · rename_i l fe f t s e hl m hm r1 l1 g1 d1 a1 n1 r2 l2 g2 d2 a2 n2 hd hg hz htx hne
    exact absurd (applyP_tx a1 htx) hne
end Go.Proofs.Ythplhhilhfpcaaa
