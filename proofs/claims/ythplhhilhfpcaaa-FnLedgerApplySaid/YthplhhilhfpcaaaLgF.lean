/-
A transaction moves exactly its amount and its fee: the contract of the law.
No conditions.
-/
import Derived.Test.YthplhhilhfpcaaaLgD
namespace Go.Proofs.Ythplhhilhfpcaaa
open Go Go.Vc
set_option maxHeartbeats 4000000
set_option maxRecDepth 10000
theorem ap_at {l : List Int} {f t s e x y : Int} {i : Nat} (hft : f ≠ t) (hf : 0 ≤ f) (ht : 0 ≤ t) (hx : ((l.set f.toNat (getL l f - (s + e))).set t.toNat (getL l t + s))[i]? = some x) (hy : l[i]? = some y) :
    ((i : Int) = t ∧ x = y + s) ∨ ((i : Int) = f ∧ (i : Int) ≠ t ∧ x = y - s - e) ∨ ((i : Int) ≠ t ∧ (i : Int) ≠ f ∧ x = y) := by
  have hl : i < l.length := (List.getElem?_eq_some_iff.1 hy).1
  by_cases h1 : (i : Int) = t
  · have e1 : t.toNat = i := by omega
    have e2 : getL l t = y := getL_of (by rw [e1]; exact hy)
    rw [e1, List.getElem?_set_self (by simpa using hl), e2] at hx
    exact .inl ⟨h1, (Option.some.inj hx).symm⟩
  · have e1 : t.toNat ≠ i := by omega
    rw [List.getElem?_set_ne e1] at hx
    by_cases h2 : (i : Int) = f
    · have e2 : f.toNat = i := by omega
      have e3 : getL l f = y := getL_of (by rw [e2]; exact hy)
      rw [e2, List.getElem?_set_self hl, e3] at hx
      have := Option.some.inj hx
      exact .inr (.inl ⟨h2, h1, by omega⟩)
    · have e2 : f.toNat ≠ i := by omega
      rw [List.getElem?_set_ne e2, hy] at hx
      exact .inr (.inr ⟨h1, h2, (Option.some.inj hx).symm⟩)
def c_laws_FnLedgerApply : Con := ⟨0, 0, false, fun xs hs _ K => match xs with
  | [.bytes b] => hs = [] ∧ b.length ≤ 9223372036854775807 ∧ K (B true) [] []
  | _ => False⟩
theorem k_laws_FnLedgerApply : Keeps' Try.prog 4 c_laws_FnLedgerApply := by
  refine keeps_of_vc mix TyT_ok (cok_cons k_spec_DrawLedgerApply Try.func17 rfl rfl (cok_cons k_impl_LedgerApply Try.func18 rfl rfl (cok_cons k_spec_LedgerApply Try.func19 rfl rfl (cok_cons (keeps_nil k_laws_sameLedger) Try.func20 rfl rfl cok_nil)))) Try.func4 rfl rfl rfl ?_
  intro aargs hs Fs K h
  simp only [c_laws_FnLedgerApply] at h
  split at h
  case h_2 => exact h.elim
  rename_i b
  obtain ⟨rfl, hb, h⟩ := h
  have big : ∀ {l : List Int}, l.length = 6 → l.length < 2000000 := fun h => by omega
  repeat' (first
    | ((conv => whnf); (first
      | refine draw_plan (id := 16) [] [] (.take 0 (.take 1 (.take 2 (.take 3 (.take 4 (.take 5 (.take 6 (.take 7 (.take 8 (.take 9 (.take 10 (.take 11 (.take 12 .done))))))))))))) (by kernel_rfl) (by kernel_rfl) ?_
      | refine brK_dec (fun _ => ?_) (fun _ => ?_)
      | refine brK_ndec (fun _ => ?_) (fun _ => ?_)
      | refine brK_not (fun _ => ?_) (fun _ => ?_)
      | refine brK_in (fun _ => ?_) (fun _ => ?_)
      | refine And.intro (by first | exact rfl | exact ⟨_, rfl, rfl⟩ | exact ⟨rfl, rfl, rfl⟩ | exact of_decide_eq_true rfl | exact trivial | assumption | omega | (show (_ ≤ _ ∧ _ ≤ _); omega) | (simp; omega) | exact ⟨by first | omega | (simp; omega), _, rfl, rfl⟩) ?_
      | refine Both.mk ?_ ?_
      | refine Exists.intro _ (And.intro rfl ?_)
      | refine fun _ => ?_))
    | exact rfl)
  all_goals first
    | exact h
    | (exfalso; simp_all; done)
    | skip
  · rename_i hgl _ _
    show K (B (decide _)) [] []
    rw [decide_eq_true hgl]
    exact h
  · rename_i l fe f t s e hl r1 l1 g1 d1 a1 n1 r2 l2 g2 d2 a2 n2 hd hg hd1
    subst hd1
    obtain ⟨p1, p2, p3, p4, p5, p6⟩ := applyP_get a1
    obtain ⟨t1, t2, t3, t4, t5, t6, t7, t8, t9⟩ := txV_out p3
    obtain ⟨q1, q2, q3, q4⟩ := ledV_out (roomV_out r1).1
    refine loop_in (ι := Nat) (fun i => mkS 96 [(2, B false), (3, .ptr 1 0), (4, .ptr 2 0), (5, .ptr 4 0), (9, I i)] [.iarr l, .cells [.own 0, I fe], .cells [I f, I t, I s, I e], .iarr l1, .cells [.own 3, I g1]] Fs) (fun i => i ≤ 6) (fun i => 6 - i) 0 [0, 1, 2, 3, 4] (Nat.zero_le _) ?_ ?_
    · repeat' (first
        | ((conv => whnf); (first
          | refine brK_dec (fun _ => ?_) (fun _ => ?_)
          | refine brK_ndec (fun _ => ?_) (fun _ => ?_)
          | refine brK_not (fun _ => ?_) (fun _ => ?_)
          | refine brK_in (fun _ => ?_) (fun _ => ?_)
          | refine And.intro (by first | exact rfl | exact ⟨_, rfl, rfl⟩ | exact ⟨rfl, rfl, rfl⟩ | exact of_decide_eq_true rfl | exact trivial | assumption | omega | (show (_ ≤ _ ∧ _ ≤ _); omega) | (simp; omega) | exact ⟨by first | omega | (simp; omega), _, rfl, rfl⟩) ?_
          | refine Both.mk ?_ ?_
          | refine Exists.intro _ (And.intro rfl ?_)
          | refine fun _ => ?_))
        | exact rfl)
    intro i hi
    repeat' (first
      | ((conv => whnf); (first
        | refine draw_plan (id := 16) [] [] (.take 0 (.take 1 (.take 2 (.take 3 (.take 4 (.take 5 (.take 6 (.take 7 (.take 8 (.take 9 (.take 10 (.take 11 (.take 12 .done))))))))))))) (by kernel_rfl) (by kernel_rfl) ?_
        | refine brK_dec (fun _ => ?_) (fun _ => ?_)
        | refine brK_ndec (fun _ => ?_) (fun _ => ?_)
        | refine brK_not (fun _ => ?_) (fun _ => ?_)
        | refine brK_in (fun _ => ?_) (fun _ => ?_)
        | refine And.intro (by first | exact rfl | exact (rng_bal q4 (by assumption) (by omega)) | exact ⟨_, rfl, rfl⟩ | exact ⟨rfl, rfl, rfl⟩ | exact of_decide_eq_true rfl | exact trivial | assumption | omega | (show (_ ≤ _ ∧ _ ≤ _); omega) | (simp; omega) | exact ⟨by first | omega | (simp; omega), _, rfl, rfl⟩) ?_
        | refine Both.mk ?_ ?_
        | refine Exists.intro _ (And.intro rfl ?_)
        | refine fun _ => ?_))
      | exact rfl)
    all_goals first
      | (exfalso; rename_i x hx y hy hne; rw [p6] at hx; have hz := ap_at t5 t1 t3 hx (by simpa using hy); omega)
      | refine ⟨i + 1, [0, 1, 2, 3, 4], by omega, by omega, ?_⟩
      | (show K (B (decide _)) [] []; rw [decide_eq_true p2]; exact h)
    all_goals repeat' (first
      | ((conv => whnf); (first
        | refine brK_dec (fun _ => ?_) (fun _ => ?_)
        | refine brK_ndec (fun _ => ?_) (fun _ => ?_)
        | refine brK_not (fun _ => ?_) (fun _ => ?_)
        | refine brK_in (fun _ => ?_) (fun _ => ?_)
        | refine And.intro (by first | exact rfl | exact ⟨_, rfl, rfl⟩ | exact ⟨rfl, rfl, rfl⟩ | exact of_decide_eq_true rfl | exact trivial | assumption | omega | (show (_ ≤ _ ∧ _ ≤ _); omega) | (simp; omega) | exact ⟨by first | omega | (simp; omega), _, rfl, rfl⟩) ?_
        | refine Both.mk ?_ ?_
        | refine Exists.intro _ (And.intro rfl ?_)
        | refine fun _ => ?_))
      | exact rfl)
  · rename_i hgl _ _
    show K (B (decide _)) [] []
    rw [decide_eq_true hgl]
    exact h
  · rename_i l fe f t s e hl m hm r1 l1 g1 d1 a1 n1 r2 l2 g2 d2 a2 n2 hd hg hd1
    subst hd1
    obtain ⟨p1, p2, p3, p4, p5, p6⟩ := applyP_get a1
    obtain ⟨t1, t2, t3, t4, t5, t6, t7, t8, t9⟩ := txV_out p3
    obtain ⟨q1, q2, q3, q4⟩ := ledV_out (roomV_out r1).1
    obtain rfl : m = 6 := by
      rw [List.drop_zero, List.length_take] at q1
      omega
    have em : List.take (6 - 0) (List.drop 0 l) = l := by
      rw [List.drop_zero]
      exact List.take_of_length_le (by omega)
    rw [em] at a1 a2 q1 q4 p1 p4 p5 p6
    refine loop_in (ι := Nat) (fun i => mkS 96 [(2, B false), (3, .ptr 1 0), (4, .ptr 2 0), (5, .ptr 4 0), (9, I i)] [.iarr l, .cells [.sub 0 0 6, I fe], .cells [I f, I t, I s, I e], .iarr l1, .cells [.own 3, I g1]] Fs) (fun i => i ≤ 6) (fun i => 6 - i) 0 [0, 1, 2, 3, 4] (Nat.zero_le _) ?_ ?_
    · repeat' (first
        | ((conv => whnf); (first
          | refine brK_dec (fun _ => ?_) (fun _ => ?_)
          | refine brK_ndec (fun _ => ?_) (fun _ => ?_)
          | refine brK_not (fun _ => ?_) (fun _ => ?_)
          | refine brK_in (fun _ => ?_) (fun _ => ?_)
          | refine And.intro (by first | exact rfl | exact ⟨_, rfl, rfl⟩ | exact ⟨rfl, rfl, rfl⟩ | exact of_decide_eq_true rfl | exact trivial | assumption | omega | (show (_ ≤ _ ∧ _ ≤ _); omega) | (simp; omega) | exact ⟨by first | omega | (simp; omega), _, rfl, rfl⟩) ?_
          | refine Both.mk ?_ ?_
          | refine Exists.intro _ (And.intro rfl ?_)
          | refine fun _ => ?_))
        | exact rfl)
    intro i hi
    repeat' (first
      | ((conv => whnf); (first
        | refine draw_plan (id := 16) [] [] (.take 0 (.take 1 (.take 2 (.take 3 (.take 4 (.take 5 (.take 6 (.take 7 (.take 8 (.take 9 (.take 10 (.take 11 (.take 12 .done))))))))))))) (by kernel_rfl) (by kernel_rfl) ?_
        | refine brK_dec (fun _ => ?_) (fun _ => ?_)
        | refine brK_ndec (fun _ => ?_) (fun _ => ?_)
        | refine brK_not (fun _ => ?_) (fun _ => ?_)
        | refine brK_in (fun _ => ?_) (fun _ => ?_)
        | refine And.intro (by first | exact rfl | exact (rng_bal q4 (by assumption) (by omega)) | exact ⟨_, rfl, rfl⟩ | exact ⟨rfl, rfl, rfl⟩ | exact of_decide_eq_true rfl | exact trivial | assumption | omega | (show (_ ≤ _ ∧ _ ≤ _); omega) | (simp; omega) | exact ⟨by first | omega | (simp; omega), _, rfl, rfl⟩) ?_
        | refine Both.mk ?_ ?_
        | refine Exists.intro _ (And.intro rfl ?_)
        | refine fun _ => ?_))
      | exact rfl)
    all_goals first
      | (exfalso; rename_i x hx y hy hne; rw [p6] at hx; have hz := ap_at t5 t1 t3 hx (by simpa using hy); omega)
      | refine ⟨i + 1, [0, 1, 2, 3, 4], by omega, by omega, ?_⟩
      | (show K (B (decide _)) [] []; rw [decide_eq_true p2]; exact h)
    all_goals repeat' (first
      | ((conv => whnf); (first
        | refine brK_dec (fun _ => ?_) (fun _ => ?_)
        | refine brK_ndec (fun _ => ?_) (fun _ => ?_)
        | refine brK_not (fun _ => ?_) (fun _ => ?_)
        | refine brK_in (fun _ => ?_) (fun _ => ?_)
        | refine And.intro (by first | exact rfl | exact ⟨_, rfl, rfl⟩ | exact ⟨rfl, rfl, rfl⟩ | exact of_decide_eq_true rfl | exact trivial | assumption | omega | (show (_ ≤ _ ∧ _ ≤ _); omega) | (simp; omega) | exact ⟨by first | omega | (simp; omega), _, rfl, rfl⟩) ?_
        | refine Both.mk ?_ ?_
        | refine Exists.intro _ (And.intro rfl ?_)
        | refine fun _ => ?_))
      | exact rfl)
end Go.Proofs.Ythplhhilhfpcaaa
