/-
A transaction without a fee can be reversed: the contract of the law.
No conditions.
-/
import Derived.Test.YthplhhilhfpcaaaLgD
namespace Go.Proofs.Ythplhhilhfpcaaa
open Go Go.Vc
set_option maxHeartbeats 4000000
set_option maxRecDepth 10000
theorem getL_some {l : List Int} {i : Int} (h : i.toNat < l.length) : l[i.toNat]? = some (getL l i) := by
  rw [List.getElem?_eq_getElem h, getL, List.getD_eq_getElem?_getD, List.getElem?_eq_getElem h]
  rfl
theorem back_of {l l1 : List Int} {fe f t s e g1 : Int} (hr : roomV l fe = true) (h : applyP l fe f t s e = (l1, g1, true)) (he : ¬ 0 < e) :
    roomV l1 g1 = true ∧ applyP l1 g1 t f s 0 = (l, fe, true) := by
  obtain ⟨p1, p2, p3, p4, p5, p6⟩ := applyP_get h
  obtain ⟨t1, t2, t3, t4, t5, t6, t7, t8, t9⟩ := txV_out p3
  obtain ⟨h1, h2⟩ := roomV_out hr
  obtain ⟨q1, q2, q3, q4⟩ := ledV_out h1
  obtain rfl : e = 0 := by omega
  obtain rfl : g1 = fe := by omega
  have lf : f.toNat < l.length := by omega
  have lt : t.toNat < l.length := by omega
  have bf := q4 _ (List.mem_of_getElem? (getL_some lf))
  have bt := q4 _ (List.mem_of_getElem? (getL_some lt))
  have ne : f.toNat ≠ t.toNat := by omega
  have ef : getL l1 f = getL l f - s := by
    refine getL_of ?_
    rw [p6, List.getElem?_set_ne (Ne.symm ne), List.getElem?_set_self lf, Int.add_zero]
  have et : getL l1 t = getL l t + s := by
    refine getL_of ?_
    rw [p6, List.getElem?_set_self (by simpa using lt)]
  constructor
  · have hall : ∀ x ∈ l1, 0 ≤ x ∧ x ≤ 999 := by
      intro x hx
      rw [p6] at hx
      rcases List.mem_or_eq_of_mem_set hx with hx | rfl
      · rcases List.mem_or_eq_of_mem_set hx with hx | rfl
        · exact q4 x hx
        · omega
      · omega
    have h6 : l1.length = 6 := by omega
    simp only [roomV, ledV, Bool.and_eq_true, List.all_eq_true, decide_eq_true_eq]
    refine ⟨⟨fun x hx => ?_, by omega, by simp [inR]; omega⟩, h2⟩
    have := hall x hx
    simp [inR]; omega
  · have tx : txV t f s 0 = true := by simp [txV, inR]; omega
    have c1 : s + 0 ≤ getL l1 t := by omega
    have c2 : getL l1 f + s ≤ 999 := by omega
    rw [applyP, tx, decide_eq_true c1, decide_eq_true c2]
    simp only [Bool.and_self, if_true, Prod.mk.injEq, and_true]
    refine ⟨?_, by omega⟩
    rw [ef, et, p6]
    refine List.ext_getElem? fun i => ?_
    simp only [List.getElem?_set, List.length_set]
    by_cases e1 : f.toNat = i
    · subst e1
      rw [getL_some lf]
      simp [lf]
    · by_cases e2 : t.toNat = i
      · subst e2
        rw [getL_some lt]
        simp [lt, e1]
      · simp [e1, e2]
def c_laws_FnLedgerBack : Con := ⟨0, 0, false, fun xs hs _ K => match xs with
  | [.bytes b] => hs = [] ∧ b.length ≤ 9223372036854775807 ∧ K (B true) [] []
  | _ => False⟩
theorem k_laws_FnLedgerBack : Keeps' Try.prog 5 c_laws_FnLedgerBack := by
  refine keeps_of_vc mix TyT_ok (cok_cons k_spec_DrawLedgerApply Try.func17 rfl rfl (cok_cons k_impl_LedgerApply Try.func18 rfl rfl (cok_cons k_spec_LedgerApply Try.func19 rfl rfl (cok_cons (keeps_nil k_laws_sameLedger) Try.func20 rfl rfl cok_nil)))) Try.func5 rfl rfl rfl ?_
  intro aargs hs Fs K h
  simp only [c_laws_FnLedgerBack] at h
  split at h
  case h_2 => exact h.elim
  rename_i b
  obtain ⟨rfl, hb, h⟩ := h
  have big : ∀ {l : List Int}, l.length = 6 → l.length < 2000000 := fun h => by omega
  repeat' (first
    | ((conv => whnf); (first
      | refine brK_dec (fun _ => ?_) (fun _ => ?_)
      | refine brK_ndec (fun _ => ?_) (fun _ => ?_)
      | refine brK_not (fun _ => ?_) (fun _ => ?_)
      | refine brK_in (fun _ => ?_) (fun _ => ?_)
      | refine And.intro (by first | exact rfl | exact ⟨_, rfl, rfl⟩ | exact ⟨rfl, rfl, rfl⟩ | exact of_decide_eq_true rfl | exact trivial | assumption | omega | (show (_ ≤ _ ∧ _ ≤ _); omega) | (simp; omega) | exact ⟨by first | omega | (simp; omega), _, rfl, rfl⟩) ?_
      | refine Both.mk ?_ ?_
      | refine Exists.intro _ (And.intro rfl ?_)
      | refine fun _ => ?_))
    | exact rfl)
  all_goals first
    | exact h
    | (exfalso; simp_all; done)
    | skip
  · rename_i hgl _ _
    show K (B (decide _)) [] []
    rw [decide_eq_true hgl]
    exact h
  · rename_i hgl _ _ _
    show K (B (decide _)) [] []
    rw [decide_eq_true hgl]
    exact h
  · rename_i l fe f t s e hl r1 l1 g1 d1 a1 n1 r2 l2 g2 d2 a2 n2 hd hg hd1 he hr
    subst hd1
    rw [(back_of r1 a1 he).1] at hr
    cases hr
  · rename_i l fe f t s e hl r1 l1 g1 d1 a1 n1 r2 l2 g2 d2 a2 n2 hd hg hd1 he hr l3 g3 d3 a3 n3 hd3
    subst hd1
    rw [(back_of r1 a1 he).2] at a3
    cases a3
    show K (B (decide _)) [] []
    rw [decide_eq_true ⟨rfl, rfl⟩]
    exact h
  · rename_i l fe f t s e hl r1 l1 g1 d1 a1 n1 r2 l2 g2 d2 a2 n2 hd hg hd1 he hr l3 g3 d3 a3 n3 hd3
    subst hd1
    rw [(back_of r1 a1 he).2] at a3
    cases a3
    cases hd3
  · rename_i hgl _ _
    show K (B (decide _)) [] []
    rw [decide_eq_true hgl]
    exact h
  · rename_i hgl _ _ _
    show K (B (decide _)) [] []
    rw [decide_eq_true hgl]
    exact h
  · rename_i l fe f t s e hl m hm r1 l1 g1 d1 a1 n1 r2 l2 g2 d2 a2 n2 hd hg hd1 he hr
    subst hd1
    rw [(back_of r1 a1 he).1] at hr
    cases hr
  · rename_i l fe f t s e hl m hm r1 l1 g1 d1 a1 n1 r2 l2 g2 d2 a2 n2 hd hg hd1 he hr l3 g3 d3 a3 n3 hd3
    subst hd1
    rw [(back_of r1 a1 he).2] at a3
    cases a3
    show K (B (decide _)) [] []
    rw [decide_eq_true ⟨rfl, rfl⟩]
    exact h
  · rename_i l fe f t s e hl m hm r1 l1 g1 d1 a1 n1 r2 l2 g2 d2 a2 n2 hd hg hd1 he hr l3 g3 d3 a3 n3 hd3
    subst hd1
    rw [(back_of r1 a1 he).2] at a3
    cases a3
    cases hd3
end Go.Proofs.Ythplhhilhfpcaaa
