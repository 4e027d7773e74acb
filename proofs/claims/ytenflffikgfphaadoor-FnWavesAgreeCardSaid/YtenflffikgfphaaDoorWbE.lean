/-
The laws on waves: readers of parts of a graph.
No conditions.
-/
import Derived.Test.YtenflffikgfphaaDoorWbD
namespace Go.Proofs.YtenflffikgfphaaDoor
open Go Go.Vc
set_option maxHeartbeats 4000000
set_option maxRecDepth 10000
theorem wavI_sub {c : List Int} {g g' : List VxD} {L : List Int} (hv : gV c g = true) (hv' : gV c g' = true) (h : Sub g' g) : wavI c g' L <+: wavI c g L := by
  unfold wavI
  rw [hv, hv', Bool.true_and]
  cases leadersV c L with
  | false => exact List.prefix_refl _
  | true => exact (out_grow (gV_ok hv) h).map _
theorem wavI_two {c : List Int} {g a b : List VxD} {L : List Int} (hv : gV c g = true) (ha : gV c a = true) (hb : gV c b = true) (h1 : Sub a g) (h2 : Sub b g) : wavI c a L <+: wavI c b L ∨ wavI c b L <+: wavI c a L := by
  unfold wavI
  rw [ha, hb, Bool.true_and]
  cases leadersV c L with
  | false => exact .inl (List.prefix_refl _)
  | true => exact (out_agree (gV_ok hv) h1 h2).imp (fun h => h.map _) fun h => h.map _
theorem k_laws_FnWavesGrow : Keeps' Tryd.prog 8 c_laws_FnWavesLeaders := by
  refine keeps_of_vc mix TyT_ok (cok_cons k_spec_DrawCommitWaves Tryd.func10 rfl rfl (cok_cons k_impl_CommitWaves Tryd.func11 rfl rfl (cok_cons k_spec_CommitWaves Tryd.func12 rfl rfl (cok_cons k_laws_sameInts Tryd.func13 rfl rfl (cok_cons k_spec_GraphValid Tryd.func14 rfl rfl (cok_cons k_laws_view Tryd.func21 rfl rfl (cok_cons k_laws_prefixInts Tryd.func16 rfl rfl cok_nil))))))) Tryd.func8 rfl rfl rfl ?_
  intro aargs hs Fs K h
  simp only [c_laws_FnWavesLeaders] at h
  split at h
  case h_2 => exact h.elim
  rename_i b b2
  obtain ⟨rfl, p0, p1, p2, hE, hb, hb2, h⟩ := h
  repeat' (first
    | ((conv => whnf); (first
      | refine Exists.intro p0 (Exists.intro p1 (Exists.intro p2 (And.intro (err_app hE) ?_)))
      | refine brK_dec (fun _ => ?_) (fun _ => ?_)
      | refine brK_ndec (fun _ => ?_) (fun _ => ?_)
      | refine brK_not (fun _ => ?_) (fun _ => ?_)
      | refine brK_in (fun _ => ?_) (fun _ => ?_)
      | refine And.intro (by first | exact rfl | exact ⟨_, rfl, rfl⟩ | exact ⟨rfl, rfl, rfl⟩ | exact of_decide_eq_true rfl | exact trivial | assumption | omega | (show (_ ≤ _ ∧ _ ≤ _); omega) | (simp; omega) | exact ⟨by first | omega | (simp; omega), _, rfl, rfl⟩) ?_
      | refine Both.mk ?_ ?_
      | refine Exists.intro _ (And.intro rfl ?_)
      | refine fun _ => ?_))
    | exact rfl)
  · exact h
  · exact h
  rename_i h1 h2 c g L p3 p4 p5 p6
  have hgs := gfit_small p5
  have hwl := wavI_len (c := c) (g := g) (L := L)
  have hwg : ∀ g', (wavI c g' L).length ≤ L.length := fun _ => wavI_len
  repeat' (first
    | ((conv => whnf); (first
      | refine Exists.intro p0 (Exists.intro p1 (Exists.intro p2 (And.intro (err_app hE) ?_)))
      | refine brK_dec (fun _ => ?_) (fun _ => ?_)
      | refine brK_ndec (fun _ => ?_) (fun _ => ?_)
      | refine brK_not (fun _ => ?_) (fun _ => ?_)
      | refine brK_in (fun _ => ?_) (fun _ => ?_)
      | refine And.intro (by first | exact rfl | exact (Nat.lt_of_le_of_lt (hwg _) (by omega)) | exact ⟨_, rfl, rfl⟩ | exact ⟨rfl, rfl, rfl⟩ | exact of_decide_eq_true rfl | exact trivial | assumption | omega | (show (_ ≤ _ ∧ _ ≤ _); omega) | (simp; omega) | exact ⟨by first | omega | (simp; omega), _, rfl, rfl⟩) ?_
      | refine Both.mk ?_ ?_
      | refine Exists.intro _ (And.intro rfl ?_)
      | refine fun _ => ?_))
    | exact rfl)
  · simpa using h
  · simpa using h
  · rename_i e1 e2 g' q1 q2 q3 q4
    have e : prefB (wavI c g' L) (wavI c g L) = true := prefB_of (wavI_sub e2 q2 q1)
    show K (B (prefB (wavI c g' L) (wavI c g L))) [] []
    rw [e]
    exact h
theorem k_laws_FnWavesAgree : Keeps' Tryd.prog 7 c_laws_FnWavesLeaders := by
  refine keeps_of_vc mix TyT_ok (cok_cons k_spec_DrawCommitWaves Tryd.func10 rfl rfl (cok_cons k_impl_CommitWaves Tryd.func11 rfl rfl (cok_cons k_spec_CommitWaves Tryd.func12 rfl rfl (cok_cons k_laws_sameInts Tryd.func13 rfl rfl (cok_cons k_spec_GraphValid Tryd.func14 rfl rfl (cok_cons k_laws_view Tryd.func21 rfl rfl (cok_cons k_laws_prefixInts Tryd.func16 rfl rfl cok_nil))))))) Tryd.func7 rfl rfl rfl ?_
  intro aargs hs Fs K h
  simp only [c_laws_FnWavesLeaders] at h
  split at h
  case h_2 => exact h.elim
  rename_i b b2
  obtain ⟨rfl, p0, p1, p2, hE, hb, hb2, h⟩ := h
  repeat' (first
    | ((conv => whnf); (first
      | refine Exists.intro p0 (Exists.intro p1 (Exists.intro p2 (And.intro (err_app hE) ?_)))
      | refine brK_dec (fun _ => ?_) (fun _ => ?_)
      | refine brK_ndec (fun _ => ?_) (fun _ => ?_)
      | refine brK_not (fun _ => ?_) (fun _ => ?_)
      | refine brK_in (fun _ => ?_) (fun _ => ?_)
      | refine And.intro (by first | exact rfl | exact ⟨_, rfl, rfl⟩ | exact ⟨rfl, rfl, rfl⟩ | exact of_decide_eq_true rfl | exact trivial | assumption | omega | (show (_ ≤ _ ∧ _ ≤ _); omega) | (simp; omega) | exact ⟨by first | omega | (simp; omega), _, rfl, rfl⟩) ?_
      | refine Both.mk ?_ ?_
      | refine Exists.intro _ (And.intro rfl ?_)
      | refine fun _ => ?_))
    | exact rfl)
  · exact h
  · exact h
  rename_i h1 h2 c g L p3 p4 p5 p6
  have hgs := gfit_small p5
  have hwl := wavI_len (c := c) (g := g) (L := L)
  have hwg : ∀ g', (wavI c g' L).length ≤ L.length := fun _ => wavI_len
  repeat' (first
    | ((conv => whnf); (first
      | refine Exists.intro p0 (Exists.intro p1 (Exists.intro p2 (And.intro (err_app hE) ?_)))
      | refine brK_dec (fun _ => ?_) (fun _ => ?_)
      | refine brK_ndec (fun _ => ?_) (fun _ => ?_)
      | refine brK_not (fun _ => ?_) (fun _ => ?_)
      | refine brK_in (fun _ => ?_) (fun _ => ?_)
      | refine And.intro (by first | exact rfl | exact (Nat.lt_of_le_of_lt (hwg _) (by omega)) | exact ⟨_, rfl, rfl⟩ | exact ⟨rfl, rfl, rfl⟩ | exact of_decide_eq_true rfl | exact trivial | assumption | omega | (show (_ ≤ _ ∧ _ ≤ _); omega) | (simp; omega) | exact ⟨by first | omega | (simp; omega), _, rfl, rfl⟩) ?_
      | refine Both.mk ?_ ?_
      | refine Exists.intro _ (And.intro rfl ?_)
      | refine fun _ => ?_))
    | exact rfl)
  · simpa using h
  · simpa using h
  · exact h
  · rename_i e1 e2 ga a1 a2 a3 a4 gb c1 c2 c3 c4 t1 t2
    rw [prefB_of (wavI_sub e2 a2 a1)] at t2
    cases t2
  · exact h
  · rename_i e1 e2 ga a1 a2 a3 a4 gb c1 c2 c3 c4 t1 t2 t3
    rw [prefB_of (wavI_sub e2 a2 a1)] at t3
    cases t3
  · rename_i e1 e2 ga a1 a2 a3 a4 gb c1 c2 c3 c4 t1 t2
    rcases wavI_two (L := L) e2 a2 c2 a1 c1 with q | q
    · rw [prefB_of q] at t1
      cases t1
    · rw [prefB_of q] at t2
      cases t2
end Go.Proofs.YtenflffikgfphaaDoor
