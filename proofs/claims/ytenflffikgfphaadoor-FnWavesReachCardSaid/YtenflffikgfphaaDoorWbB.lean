/-
The laws on waves: ascending, linked, reached.
No conditions.
-/
import Derived.Test.YtenflffikgfphaaDoorWbA
namespace Go.Proofs.YtenflffikgfphaaDoor
open Go Go.Vc
set_option maxHeartbeats 4000000
set_option maxRecDepth 10000
theorem wavI_ne {c : List Int} {g : List VxD} {L : List Int} (h : (wavI c g L).length ≠ 0) : (gV c g && leadersV c L) = true := by
  cases e : (gV c g && leadersV c L) with
  | true => rfl
  | false =>
    rw [wavI, e] at h
    exact absurd rfl h
/-- The i-th committed wave. -/
theorem wavI_at {c : List Int} {g : List VxD} {L : List Int} {i : Nat} (h : i < (wavI c g L).length) : ∃ n : Nat, (wavI c g L)[i]? = some (n : Int) ∧ (outV c g L)[i]? = some n ∧ 1 ≤ n ∧ n ≤ L.length ∧ hasV g L n = true ∧ (gV c g && leadersV c L) = true := by
  have hok := wavI_ne (c := c) (g := g) (L := L) (by omega)
  rw [wavI_ok hok] at h ⊢
  have h2 : i < (outV c g L).length := by simpa using h
  have hm := out_mem (List.getElem_mem h2)
  exact ⟨(outV c g L)[i], by simp [h2], by simp [h2], hm.1, hm.2.1, hm.2.2, hok⟩
theorem leadA_has {g : List VxD} {L : List Int} {n : Nat} (h : hasV g L n = true) : ∃ k, leadV g L n = some k ∧ leadA g L n = (k : Int) := by
  obtain ⟨k, hk⟩ := has_lead h
  exact ⟨k, hk, by rw [leadA, hk]⟩
theorem wavI_asc {c : List Int} {g : List VxD} {L : List Int} {i : Nat} {x y : Int} (hx : (wavI c g L)[i]? = some x) (hy : (wavI c g L)[i + 1]? = some y) : x < y := by
  have h1 := (List.getElem?_eq_some_iff.1 hx).1
  obtain ⟨n, q1, q2, _, _, _, _⟩ := wavI_at h1
  obtain ⟨m, r1, r2, _, _, _, _⟩ := wavI_at (List.getElem?_eq_some_iff.1 hy).1
  rw [hx] at q1
  rw [hy] at r1
  cases q1
  cases r1
  have h3 := out_asc (c := c) (g := g) (L := L)
  obtain ⟨u1, rfl⟩ := List.getElem?_eq_some_iff.1 q2
  obtain ⟨u2, rfl⟩ := List.getElem?_eq_some_iff.1 r2
  have := List.pairwise_iff_getElem.1 h3 i (i + 1) u1 u2 (by omega)
  exact_mod_cast this
theorem k_laws_FnWavesAscending : Keeps' Tryd.prog 5 c_laws_FnWavesDirect := by
  refine keeps_of_vc mix TyT_ok (cok_cons k_spec_DrawCommitWaves Tryd.func10 rfl rfl (cok_cons k_impl_CommitWaves Tryd.func11 rfl rfl (cok_cons k_spec_CommitWaves Tryd.func12 rfl rfl (cok_cons k_laws_sameInts Tryd.func13 rfl rfl (cok_cons k_impl_WaveLeader Tryd.func19 rfl rfl (cok_cons k_impl_WaveDirect Tryd.func17 rfl rfl cok_nil)))))) Tryd.func5 rfl rfl rfl ?_
  intro aargs hs Fs K h
  simp only [c_laws_FnWavesDirect] at h
  split at h
  case h_2 => exact h.elim
  rename_i b
  obtain ⟨rfl, p0, p1, p2, hE, hb, h⟩ := h
  repeat' (first
    | ((conv => whnf); (first
      | refine Exists.intro p0 (Exists.intro p1 (Exists.intro p2 (And.intro (err_app hE) ?_)))
      | refine brK_dec (fun _ => ?_) (fun _ => ?_)
      | refine brK_ndec (fun _ => ?_) (fun _ => ?_)
      | refine brK_not (fun _ => ?_) (fun _ => ?_)
      | refine brK_in (fun _ => ?_) (fun _ => ?_)
      | refine And.intro (by first | exact rfl | exact ⟨_, rfl, rfl⟩ | exact ⟨rfl, rfl, rfl⟩ | exact of_decide_eq_true rfl | exact trivial | assumption | omega | (show (_ ≤ _ ∧ _ ≤ _); omega) | (simp; omega) | exact ⟨by first | omega | (simp; omega), _, rfl, rfl⟩) ?_
      | refine Both.mk ?_ ?_
      | refine Exists.intro _ (And.intro rfl ?_)
      | refine opt_use (by assumption) ?_
      | refine fun _ => ?_))
    | exact rfl)
  · exact h
  rename_i h1 c g L p3 p4 p5 p6
  have hgs := gfit_small p5
  have hwl := wavI_len (c := c) (g := g) (L := L)
  repeat' (first
    | ((conv => whnf); (first
      | refine Exists.intro p0 (Exists.intro p1 (Exists.intro p2 (And.intro (err_app hE) ?_)))
      | refine brK_dec (fun _ => ?_) (fun _ => ?_)
      | refine brK_ndec (fun _ => ?_) (fun _ => ?_)
      | refine brK_not (fun _ => ?_) (fun _ => ?_)
      | refine brK_in (fun _ => ?_) (fun _ => ?_)
      | refine And.intro (by first | exact rfl | exact ⟨_, rfl, rfl⟩ | exact ⟨rfl, rfl, rfl⟩ | exact of_decide_eq_true rfl | exact trivial | assumption | omega | (show (_ ≤ _ ∧ _ ≤ _); omega) | (simp; omega) | exact ⟨by first | omega | (simp; omega), _, rfl, rfl⟩) ?_
      | refine Both.mk ?_ ?_
      | refine Exists.intro _ (And.intro rfl ?_)
      | refine opt_use (by assumption) ?_
      | refine fun _ => ?_))
    | exact rfl)
  · simpa using h
  · simpa using h
  rename_i e0 hne
  refine loop_in (ι := Nat) (fun i => mkS 79 [(3, .ints c), (4, .sl 4 (g.map VxD.row)), (5, .ints L), (6, .own 0), (8, I i)] [.iarr (wavI c g L)] Fs) (fun i => i ≤ (wavI c g L).length) (fun i => (wavI c g L).length - i) 0 [0] (Nat.zero_le _) ?_ ?_
  · repeat' (first
      | ((conv => whnf); (first
        | refine Exists.intro p0 (Exists.intro p1 (Exists.intro p2 (And.intro (err_app hE) ?_)))
        | refine brK_dec (fun _ => ?_) (fun _ => ?_)
        | refine brK_ndec (fun _ => ?_) (fun _ => ?_)
        | refine brK_not (fun _ => ?_) (fun _ => ?_)
        | refine brK_in (fun _ => ?_) (fun _ => ?_)
        | refine And.intro (by first | exact rfl | exact ⟨_, rfl, rfl⟩ | exact ⟨rfl, rfl, rfl⟩ | exact of_decide_eq_true rfl | exact trivial | assumption | omega | (show (_ ≤ _ ∧ _ ≤ _); omega) | (simp; omega) | exact ⟨by first | omega | (simp; omega), _, rfl, rfl⟩) ?_
        | refine Both.mk ?_ ?_
        | refine Exists.intro _ (And.intro rfl ?_)
        | refine opt_use (by assumption) ?_
        | refine fun _ => ?_))
      | exact rfl)
  intro i hi
  dsimp only at hi ⊢
  rcases Nat.lt_or_ge i (wavI c g L).length with hlt | hge
  · obtain ⟨n, q1, q2, q3, q4, q5, q6⟩ := wavI_at hlt
    obtain ⟨k, hk, hka⟩ := leadA_has q5
    repeat' (first
      | ((conv => whnf); (first
        | refine draw_plan (id := 11) [] [] (.take 0 (.take 1 (.take 2 (.take 3 (.take 4 (.take 5 (.take 6 (.run 7 (.take 8 (.take 9 (.take 10 (.take 11 (.take 12 (.take 13 (.take 14 (.take 15 (.take 16 (.take 17 (.take 18 (.take 19 (.take 20 (.take 21 (.take 22 (.take 23 (.take 24 .done))))))))))))))))))))))))) (by kernel_rfl) (by kernel_rfl) ?_
        | refine Exists.intro p0 (Exists.intro p1 (Exists.intro p2 (And.intro (err_app hE) ?_)))
        | refine brK_dec (fun _ => ?_) (fun _ => ?_)
        | refine brK_ndec (fun _ => ?_) (fun _ => ?_)
        | refine brK_not (fun _ => ?_) (fun _ => ?_)
        | refine brK_in (fun _ => ?_) (fun _ => ?_)
        | refine And.intro (by first | exact rfl | exact ⟨_, rfl, rfl⟩ | exact ⟨rfl, rfl, rfl⟩ | exact of_decide_eq_true rfl | exact trivial | assumption | omega | (show (_ ≤ _ ∧ _ ≤ _); omega) | (simp; omega) | exact ⟨by first | omega | (simp; omega), _, rfl, rfl⟩) ?_
        | refine Both.mk ?_ ?_
        | refine Exists.intro _ (And.intro rfl ?_)
        | refine opt_use (by assumption) ?_
        | refine Exists.intro n (And.intro rfl ?_)
        | refine fun _ => ?_))
      | exact rfl)
    · rename_i e1 e2
      rw [if_pos q6, hka] at e2
      omega
    · rename_i e1 e2 e3 x hx e4
      obtain ⟨j, rfl⟩ : ∃ j, i = j + 1 := ⟨i - 1, by omega⟩
      have e5 : (((j + 1 : Nat) : Int) - 1).toNat = j := by omega
      rw [e5] at hx
      have := wavI_asc hx q1
      omega
    · refine ⟨i + 1, [0], by omega, by omega, ?_⟩
      repeat' (first
        | ((conv => whnf); (first
          | refine Exists.intro p0 (Exists.intro p1 (Exists.intro p2 (And.intro (err_app hE) ?_)))
          | refine brK_dec (fun _ => ?_) (fun _ => ?_)
          | refine brK_ndec (fun _ => ?_) (fun _ => ?_)
          | refine brK_not (fun _ => ?_) (fun _ => ?_)
          | refine brK_in (fun _ => ?_) (fun _ => ?_)
          | refine And.intro (by first | exact rfl | exact ⟨_, rfl, rfl⟩ | exact ⟨rfl, rfl, rfl⟩ | exact of_decide_eq_true rfl | exact trivial | assumption | omega | (show (_ ≤ _ ∧ _ ≤ _); omega) | (simp; omega) | exact ⟨by first | omega | (simp; omega), _, rfl, rfl⟩) ?_
          | refine Both.mk ?_ ?_
          | refine Exists.intro _ (And.intro rfl ?_)
          | refine opt_use (by assumption) ?_
          | refine Exists.intro n (And.intro rfl ?_)
          | refine fun _ => ?_))
        | exact rfl)
    · refine ⟨i + 1, [0], by omega, by omega, ?_⟩
      repeat' (first
        | ((conv => whnf); (first
          | refine Exists.intro p0 (Exists.intro p1 (Exists.intro p2 (And.intro (err_app hE) ?_)))
          | refine brK_dec (fun _ => ?_) (fun _ => ?_)
          | refine brK_ndec (fun _ => ?_) (fun _ => ?_)
          | refine brK_not (fun _ => ?_) (fun _ => ?_)
          | refine brK_in (fun _ => ?_) (fun _ => ?_)
          | refine And.intro (by first | exact rfl | exact ⟨_, rfl, rfl⟩ | exact ⟨rfl, rfl, rfl⟩ | exact of_decide_eq_true rfl | exact trivial | assumption | omega | (show (_ ≤ _ ∧ _ ≤ _); omega) | (simp; omega) | exact ⟨by first | omega | (simp; omega), _, rfl, rfl⟩) ?_
          | refine Both.mk ?_ ?_
          | refine Exists.intro _ (And.intro rfl ?_)
          | refine opt_use (by assumption) ?_
          | refine Exists.intro n (And.intro rfl ?_)
          | refine fun _ => ?_))
        | exact rfl)
    · omega
  · have e1 : i = (wavI c g L).length := by omega
    subst e1
    have hpos : (wavI c g L).length - 1 < (wavI c g L).length := by omega
    obtain ⟨n, q1, q2, q3, q4, q5, q6⟩ := wavI_at hpos
    have e2 : ((((wavI c g L).length : Nat) : Int) - 1).toNat = (wavI c g L).length - 1 := by omega
    have hd : dirV c g L n = true := out_last (by rw [List.getLast?_eq_getElem?, ← q2]; congr 1; rw [wavI_ok q6]; simp)
    rw [← e2] at q1
    repeat' (first
      | ((conv => whnf); (first
        | refine draw_plan (id := 11) [] [] (.take 0 (.take 1 (.take 2 (.take 3 (.take 4 (.take 5 (.take 6 (.run 7 (.take 8 (.take 9 (.take 10 (.take 11 (.take 12 (.take 13 (.take 14 (.take 15 (.take 16 (.take 17 (.take 18 (.take 19 (.take 20 (.take 21 (.take 22 (.take 23 (.take 24 .done))))))))))))))))))))))))) (by kernel_rfl) (by kernel_rfl) ?_
        | refine Exists.intro p0 (Exists.intro p1 (Exists.intro p2 (And.intro (err_app hE) ?_)))
        | refine brK_dec (fun _ => ?_) (fun _ => ?_)
        | refine brK_ndec (fun _ => ?_) (fun _ => ?_)
        | refine brK_not (fun _ => ?_) (fun _ => ?_)
        | refine brK_in (fun _ => ?_) (fun _ => ?_)
        | refine And.intro (by first | exact rfl | exact ⟨_, rfl, rfl⟩ | exact ⟨rfl, rfl, rfl⟩ | exact of_decide_eq_true rfl | exact trivial | assumption | omega | (show (_ ≤ _ ∧ _ ≤ _); omega) | (simp; omega) | exact ⟨by first | omega | (simp; omega), _, rfl, rfl⟩) ?_
        | refine Both.mk ?_ ?_
        | refine Exists.intro _ (And.intro rfl ?_)
        | refine opt_use q1 ?_
        | refine opt_use (by assumption) ?_
        | refine Exists.intro n (And.intro rfl ?_)
        | refine fun _ => ?_))
      | exact rfl)
    · omega
    all_goals try omega
    rw [q6, hd] at *
    exact h
theorem link_past {c : List Int} {g : List VxD} {L : List Int} {n m : Nat} {l : Int} (hok : (gV c g && leadersV c L) = true) (hr : linkV g L n m = true) (n0 : 1 ≤ n) (hl : L[n - 1]? = some l) : leadA g L m ∈ pastI c g (2 * (n : Int) - 1) l := by
  obtain ⟨i, j, h1, h2, h3⟩ := link_out hr
  rw [lead_find n0 hl] at h1
  rw [pastI, if_pos (and1 hok), h1, leadA, h2]
  obtain ⟨_, _, hkf⟩ := lead_out h2
  obtain ⟨u, hu, _⟩ := find_out hkf
  exact (idxT_mem (List.getElem?_eq_some_iff.1 hu).1).2 h3
theorem pastI_len {c : List Int} {g : List VxD} {r a : Int} : (pastI c g r a).length ≤ g.length := by
  unfold pastI
  split
  · split
    · exact idxT_len
    · simp
  · simp
theorem k_laws_FnWavesLinked : Keeps' Tryd.prog 6 c_laws_FnWavesDirect := by
  refine keeps_of_vc mix TyT_ok (cok_cons k_spec_DrawCommitWaves Tryd.func10 rfl rfl (cok_cons k_impl_CommitWaves Tryd.func11 rfl rfl (cok_cons k_spec_CommitWaves Tryd.func12 rfl rfl (cok_cons k_laws_sameInts Tryd.func13 rfl rfl (cok_cons k_impl_GraphPast Tryd.func20 rfl rfl (cok_cons k_impl_WaveLeader Tryd.func19 rfl rfl (cok_cons k_laws_hasInt Tryd.func18 rfl rfl cok_nil))))))) Tryd.func6 rfl rfl rfl ?_
  intro aargs hs Fs K h
  simp only [c_laws_FnWavesDirect] at h
  split at h
  case h_2 => exact h.elim
  rename_i b
  obtain ⟨rfl, p0, p1, p2, hE, hb, h⟩ := h
  repeat' (first
    | ((conv => whnf); (first
      | refine Exists.intro p0 (Exists.intro p1 (Exists.intro p2 (And.intro (err_app hE) ?_)))
      | refine brK_dec (fun _ => ?_) (fun _ => ?_)
      | refine brK_ndec (fun _ => ?_) (fun _ => ?_)
      | refine brK_not (fun _ => ?_) (fun _ => ?_)
      | refine brK_in (fun _ => ?_) (fun _ => ?_)
      | refine And.intro (by first | exact rfl | exact ⟨_, rfl, rfl⟩ | exact ⟨rfl, rfl, rfl⟩ | exact of_decide_eq_true rfl | exact trivial | assumption | omega | (show (_ ≤ _ ∧ _ ≤ _); omega) | (simp; omega) | exact ⟨by first | omega | (simp; omega), _, rfl, rfl⟩) ?_
      | refine Both.mk ?_ ?_
      | refine Exists.intro _ (And.intro rfl ?_)
      | refine opt_use (by assumption) ?_
      | refine fun _ => ?_))
    | exact rfl)
  · exact h
  rename_i h1 c g L p3 p4 p5 p6
  have hgs := gfit_small p5
  have hwl := wavI_len (c := c) (g := g) (L := L)
  repeat' (first
    | ((conv => whnf); (first
      | refine Exists.intro p0 (Exists.intro p1 (Exists.intro p2 (And.intro (err_app hE) ?_)))
      | refine brK_dec (fun _ => ?_) (fun _ => ?_)
      | refine brK_ndec (fun _ => ?_) (fun _ => ?_)
      | refine brK_not (fun _ => ?_) (fun _ => ?_)
      | refine brK_in (fun _ => ?_) (fun _ => ?_)
      | refine And.intro (by first | exact rfl | exact ⟨_, rfl, rfl⟩ | exact ⟨rfl, rfl, rfl⟩ | exact of_decide_eq_true rfl | exact trivial | assumption | omega | (show (_ ≤ _ ∧ _ ≤ _); omega) | (simp; omega) | exact ⟨by first | omega | (simp; omega), _, rfl, rfl⟩) ?_
      | refine Both.mk ?_ ?_
      | refine Exists.intro _ (And.intro rfl ?_)
      | refine opt_use (by assumption) ?_
      | refine fun _ => ?_))
    | exact rfl)
  · simpa using h
  refine loop_in (ι := Nat) (fun i => mkS 69 [(3, .ints c), (4, .sl 4 (g.map VxD.row)), (5, .ints L), (6, .own 0), (8, I (i + 1))] [.iarr (wavI c g L)] Fs) (fun i => i ≤ (wavI c g L).length) (fun i => (wavI c g L).length - i) 0 [0] (Nat.zero_le _) ?_ ?_
  · repeat' (first
      | ((conv => whnf); (first
        | refine Exists.intro p0 (Exists.intro p1 (Exists.intro p2 (And.intro (err_app hE) ?_)))
        | refine brK_dec (fun _ => ?_) (fun _ => ?_)
        | refine brK_ndec (fun _ => ?_) (fun _ => ?_)
        | refine brK_not (fun _ => ?_) (fun _ => ?_)
        | refine brK_in (fun _ => ?_) (fun _ => ?_)
        | refine And.intro (by first | exact rfl | exact ⟨_, rfl, rfl⟩ | exact ⟨rfl, rfl, rfl⟩ | exact of_decide_eq_true rfl | exact trivial | assumption | omega | (show (_ ≤ _ ∧ _ ≤ _); omega) | (simp; omega) | exact ⟨by first | omega | (simp; omega), _, rfl, rfl⟩) ?_
        | refine Both.mk ?_ ?_
        | refine Exists.intro _ (And.intro rfl ?_)
        | refine opt_use (by assumption) ?_
        | refine fun _ => ?_))
      | exact rfl)
  intro i hi
  dsimp only at hi ⊢
  rcases Nat.lt_or_ge (i + 1) (wavI c g L).length with hlt | hge
  · obtain ⟨n, q1, q2, q3, q4, q5, q6⟩ := wavI_at hlt
    obtain ⟨m, r1, r2, r3, r4, r5, _⟩ := wavI_at (c := c) (g := g) (L := L) (i := i) (by omega)
    have hr : linkV g L n m = true := out_linked (gV_ok (and1 q6)) i m n r2 q2
    have hpl : ∀ r a, (pastI c g r a).length ≤ g.length := fun _ _ => pastI_len
    have e5 : ((i : Int) + 1 - 1).toNat = i := by omega
    rw [← e5] at r1
    repeat' (first
      | ((conv => whnf); (first
        | refine draw_plan (id := 11) [] [] (.take 0 (.take 1 (.take 2 (.take 3 (.take 4 (.take 5 (.take 6 (.take 7 (.take 8 (.take 9 (.take 10 (.take 11 (.take 12 (.take 13 (.take 14 (.take 15 (.run 16 (.take 17 .done)))))))))))))))))) (by kernel_rfl) (by kernel_rfl) ?_
        | refine Exists.intro p0 (Exists.intro p1 (Exists.intro p2 (And.intro (err_app hE) ?_)))
        | refine brK_dec (fun _ => ?_) (fun _ => ?_)
        | refine brK_ndec (fun _ => ?_) (fun _ => ?_)
        | refine brK_not (fun _ => ?_) (fun _ => ?_)
        | refine brK_in (fun _ => ?_) (fun _ => ?_)
        | refine And.intro (by first | exact rfl | exact (Nat.lt_of_le_of_lt (hpl _ _) (by omega)) | exact ⟨_, rfl, rfl⟩ | exact ⟨rfl, rfl, rfl⟩ | exact of_decide_eq_true rfl | exact trivial | assumption | omega | (show (_ ≤ _ ∧ _ ≤ _); omega) | (simp; omega) | exact ⟨by first | omega | (simp; omega), _, rfl, rfl⟩) ?_
        | refine Both.mk ?_ ?_
        | refine Exists.intro _ (And.intro rfl ?_)
        | refine opt_use r1 ?_
        | refine opt_use (by assumption) ?_
        | refine Exists.intro m (And.intro rfl ?_)
        | refine fun _ => ?_))
      | exact rfl)
    · rename_i e1 x hx e
      have e6 : ((n : Int) - 1).toNat = n - 1 := by omega
      rw [e6] at hx
      rw [if_pos q6] at e
      exact absurd (link_past q6 hr q3 hx) e
    · refine ⟨i + 1, [0], by omega, by omega, ?_⟩
      repeat' (first
        | ((conv => whnf); (first
          | refine Exists.intro p0 (Exists.intro p1 (Exists.intro p2 (And.intro (err_app hE) ?_)))
          | refine brK_dec (fun _ => ?_) (fun _ => ?_)
          | refine brK_ndec (fun _ => ?_) (fun _ => ?_)
          | refine brK_not (fun _ => ?_) (fun _ => ?_)
          | refine brK_in (fun _ => ?_) (fun _ => ?_)
          | refine And.intro (by first | exact rfl | exact ⟨_, rfl, rfl⟩ | exact ⟨rfl, rfl, rfl⟩ | exact of_decide_eq_true rfl | exact trivial | assumption | omega | (show (_ ≤ _ ∧ _ ≤ _); omega) | (simp; omega) | exact ⟨by first | omega | (simp; omega), _, rfl, rfl⟩) ?_
          | refine Both.mk ?_ ?_
          | refine Exists.intro _ (And.intro rfl ?_)
          | refine opt_use r1 ?_
          | refine opt_use (by assumption) ?_
          | refine Exists.intro m (And.intro rfl ?_)
          | refine fun _ => ?_))
        | exact rfl)
    · exact h
  · repeat' (first
      | ((conv => whnf); (first
        | refine draw_plan (id := 11) [] [] (.take 0 (.take 1 (.take 2 (.take 3 (.take 4 (.take 5 (.take 6 (.take 7 (.take 8 (.take 9 (.take 10 (.take 11 (.take 12 (.take 13 (.take 14 (.take 15 (.run 16 (.take 17 .done)))))))))))))))))) (by kernel_rfl) (by kernel_rfl) ?_
        | refine Exists.intro p0 (Exists.intro p1 (Exists.intro p2 (And.intro (err_app hE) ?_)))
        | refine brK_dec (fun _ => ?_) (fun _ => ?_)
        | refine brK_ndec (fun _ => ?_) (fun _ => ?_)
        | refine brK_not (fun _ => ?_) (fun _ => ?_)
        | refine brK_in (fun _ => ?_) (fun _ => ?_)
        | refine And.intro (by first | exact rfl | exact ⟨_, rfl, rfl⟩ | exact ⟨rfl, rfl, rfl⟩ | exact of_decide_eq_true rfl | exact trivial | assumption | omega | (show (_ ≤ _ ∧ _ ≤ _); omega) | (simp; omega) | exact ⟨by first | omega | (simp; omega), _, rfl, rfl⟩) ?_
        | refine Both.mk ?_ ?_
        | refine Exists.intro _ (And.intro rfl ?_)
        | refine opt_use r1 ?_
        | refine opt_use (by assumption) ?_
        | refine Exists.intro m (And.intro rfl ?_)
        | refine fun _ => ?_))
      | exact rfl)
    · omega
    · exact h
theorem reach_mem {c : List Int} {g : List VxD} {L : List Int} {n i : Nat} {v : VxD} (hok : (gV c g && leadersV c L) = true) (hd : dirV c g L n = true) (hv : g[i]? = some v) (hr : (2 * n : Int) < v.r) : leadA g L n ∈ pastI c g v.r v.a := by
  obtain ⟨k, hk, hka⟩ := leadA_has (dir_has _ hd)
  rw [pastI, if_pos (and1 hok), find_at (gV_sorted (and1 hok)) hv, hka]
  obtain ⟨_, _, hkf⟩ := lead_out hk
  obtain ⟨u, hu, _⟩ := find_out hkf
  exact (idxT_mem (List.getElem?_eq_some_iff.1 hu).1).2 (dir_reach (gV_ok (and1 hok)) hd hk hv hr)
theorem k_laws_FnWavesReach : Keeps' Tryd.prog 9 c_laws_FnWavesLeaders := by
  refine keeps_of_vc mix TyT_ok (cok_cons k_spec_DrawCommitWaves Tryd.func10 rfl rfl (cok_cons k_impl_CommitWaves Tryd.func11 rfl rfl (cok_cons k_spec_CommitWaves Tryd.func12 rfl rfl (cok_cons k_laws_sameInts Tryd.func13 rfl rfl (cok_cons k_spec_GraphValid Tryd.func14 rfl rfl (cok_cons k_impl_GraphPast Tryd.func20 rfl rfl (cok_cons k_impl_WaveDirect Tryd.func17 rfl rfl (cok_cons k_impl_WaveLeader Tryd.func19 rfl rfl (cok_cons k_laws_hasInt Tryd.func18 rfl rfl cok_nil))))))))) Tryd.func9 rfl rfl rfl ?_
  intro aargs hs Fs K h
  simp only [c_laws_FnWavesLeaders] at h
  split at h
  case h_2 => exact h.elim
  rename_i b b2
  obtain ⟨rfl, p0, p1, p2, hE, hb, hb2, h⟩ := h
  repeat' (first
    | ((conv => whnf); (first
      | refine Exists.intro p0 (Exists.intro p1 (Exists.intro p2 (And.intro (err_app hE) ?_)))
      | refine brK_dec (fun _ => ?_) (fun _ => ?_)
      | refine brK_ndec (fun _ => ?_) (fun _ => ?_)
      | refine brK_not (fun _ => ?_) (fun _ => ?_)
      | refine brK_in (fun _ => ?_) (fun _ => ?_)
      | refine And.intro (by first | exact rfl | exact ⟨_, rfl, rfl⟩ | exact ⟨rfl, rfl, rfl⟩ | exact of_decide_eq_true rfl | exact trivial | assumption | omega | (show (_ ≤ _ ∧ _ ≤ _); omega) | (simp; omega) | exact ⟨by first | omega | (simp; omega), _, rfl, rfl⟩) ?_
      | refine Both.mk ?_ ?_
      | refine Exists.intro _ (And.intro rfl ?_)
      | refine opt_use (by assumption) ?_
      | refine vrow_in (fun _ _ => ?_)
      | refine fun _ => ?_))
    | exact rfl)
  · exact h
  · exact h
  rename_i h1 h2 c g L p3 p4 p5 p6
  have hgs := gfit_small p5
  have hwl := wavI_len (c := c) (g := g) (L := L)
  have hlen : (g.map VxD.row).length = g.length := by simp
  have hem : (g.map VxD.row).length ≠ 0 → 0 ≤ (b2.length : Int) % ((g.map VxD.row).length : Int) ∧ (b2.length : Int) % ((g.map VxD.row).length : Int) < ((g.map VxD.row).length : Int) := fun hn =>
    ⟨Int.emod_nonneg _ (by omega), Int.emod_lt_of_pos _ (by omega)⟩
  repeat' (first
    | ((conv => whnf); (first
      | refine Exists.intro p0 (Exists.intro p1 (Exists.intro p2 (And.intro (err_app hE) ?_)))
      | refine brK_dec (fun _ => ?_) (fun _ => ?_)
      | refine brK_ndec (fun _ => ?_) (fun _ => ?_)
      | refine brK_not (fun _ => ?_) (fun _ => ?_)
      | refine brK_in (fun _ => ?_) (fun _ => ?_)
      | refine And.intro (by first | exact rfl | exact (by first | exact (hem (by omega)).1 | exact (hem (by omega)).2) | exact ⟨_, rfl, rfl⟩ | exact ⟨rfl, rfl, rfl⟩ | exact of_decide_eq_true rfl | exact trivial | assumption | omega | (show (_ ≤ _ ∧ _ ≤ _); omega) | (simp; omega) | exact ⟨by first | omega | (simp; omega), _, rfl, rfl⟩) ?_
      | refine Both.mk ?_ ?_
      | refine Exists.intro _ (And.intro rfl ?_)
      | refine opt_use (by assumption) ?_
      | refine vrow_in (fun _ _ => ?_)
      | refine fun _ => ?_))
    | exact rfl)
  · simpa using h
  · simpa using h
  · simpa using h
  rename_i e1 e2 e3 v hv
  have hpl : ∀ r a, (pastI c g r a).length ≤ g.length := fun _ _ => pastI_len
  refine loop_in (ι := Nat) (fun n => mkS 96 [(5, .ints c), (6, .sl 4 (g.map VxD.row)), (7, .ints L), (10, .ptr 0 0), (11, .own 1), (12, I (n + 1))] [.cells [I v.r, I v.a, .ints v.p, I v.d], .iarr (pastI c g v.r v.a)] Fs) (fun n => n ≤ L.length) (fun n => L.length - n) 0 [2, 3] (Nat.zero_le _) ?_ ?_
  · repeat' (first
      | ((conv => whnf); (first
        | refine Exists.intro p0 (Exists.intro p1 (Exists.intro p2 (And.intro (err_app hE) ?_)))
        | refine brK_dec (fun _ => ?_) (fun _ => ?_)
        | refine brK_ndec (fun _ => ?_) (fun _ => ?_)
        | refine brK_not (fun _ => ?_) (fun _ => ?_)
        | refine brK_in (fun _ => ?_) (fun _ => ?_)
        | refine And.intro (by first | exact rfl | exact ⟨_, rfl, rfl⟩ | exact ⟨rfl, rfl, rfl⟩ | exact of_decide_eq_true rfl | exact trivial | assumption | omega | (show (_ ≤ _ ∧ _ ≤ _); omega) | (simp; omega) | exact ⟨by first | omega | (simp; omega), _, rfl, rfl⟩) ?_
        | refine Both.mk ?_ ?_
        | refine Exists.intro _ (And.intro rfl ?_)
        | refine opt_use (by assumption) ?_
        | refine vrow_in (fun _ _ => ?_)
        | refine fun _ => ?_))
      | exact rfl)
  intro n hn
  dsimp only at hn ⊢
  repeat' (first
    | ((conv => whnf); (first
      | refine Exists.intro p0 (Exists.intro p1 (Exists.intro p2 (And.intro (err_app hE) ?_)))
      | refine brK_dec (fun _ => ?_) (fun _ => ?_)
      | refine brK_ndec (fun _ => ?_) (fun _ => ?_)
      | refine brK_not (fun _ => ?_) (fun _ => ?_)
      | refine brK_in (fun _ => ?_) (fun _ => ?_)
      | refine And.intro (by first | exact rfl | exact (Nat.lt_of_le_of_lt (hpl _ _) (by omega)) | exact ⟨_, rfl, rfl⟩ | exact ⟨rfl, rfl, rfl⟩ | exact of_decide_eq_true rfl | exact trivial | assumption | omega | (show (_ ≤ _ ∧ _ ≤ _); omega) | (simp; omega) | exact ⟨by first | omega | (simp; omega), _, rfl, rfl⟩) ?_
      | refine Both.mk ?_ ?_
      | refine Exists.intro _ (And.intro rfl ?_)
      | refine Exists.intro (n + 1) (And.intro (by simp) ?_)
      | refine opt_use (by assumption) ?_
      | refine fun _ => ?_))
    | exact rfl)
  · rename_i e4 e5 e6 e7
    rw [if_pos (and1 e6)] at e7
    exact absurd (reach_mem (and1 e6) (and2 e6) hv (by push_cast; exact e5)) e7
  · refine ⟨n + 1, [0, 1], by omega, by omega, ?_⟩
    repeat' (first
      | ((conv => whnf); (first
        | refine Exists.intro p0 (Exists.intro p1 (Exists.intro p2 (And.intro (err_app hE) ?_)))
        | refine brK_dec (fun _ => ?_) (fun _ => ?_)
        | refine brK_ndec (fun _ => ?_) (fun _ => ?_)
        | refine brK_not (fun _ => ?_) (fun _ => ?_)
        | refine brK_in (fun _ => ?_) (fun _ => ?_)
        | refine And.intro (by first | exact rfl | exact ⟨_, rfl, rfl⟩ | exact ⟨rfl, rfl, rfl⟩ | exact of_decide_eq_true rfl | exact trivial | assumption | omega | (show (_ ≤ _ ∧ _ ≤ _); omega) | (simp; omega) | exact ⟨by first | omega | (simp; omega), _, rfl, rfl⟩) ?_
        | refine Both.mk ?_ ?_
        | refine Exists.intro _ (And.intro rfl ?_)
        | refine Exists.intro (n + 1) (And.intro (by simp) ?_)
        | refine opt_use (by assumption) ?_
        | refine fun _ => ?_))
      | exact rfl)
  · refine ⟨n + 1, [0, 1], by omega, by omega, ?_⟩
    repeat' (first
      | ((conv => whnf); (first
        | refine Exists.intro p0 (Exists.intro p1 (Exists.intro p2 (And.intro (err_app hE) ?_)))
        | refine brK_dec (fun _ => ?_) (fun _ => ?_)
        | refine brK_ndec (fun _ => ?_) (fun _ => ?_)
        | refine brK_not (fun _ => ?_) (fun _ => ?_)
        | refine brK_in (fun _ => ?_) (fun _ => ?_)
        | refine And.intro (by first | exact rfl | exact ⟨_, rfl, rfl⟩ | exact ⟨rfl, rfl, rfl⟩ | exact of_decide_eq_true rfl | exact trivial | assumption | omega | (show (_ ≤ _ ∧ _ ≤ _); omega) | (simp; omega) | exact ⟨by first | omega | (simp; omega), _, rfl, rfl⟩) ?_
        | refine Both.mk ?_ ?_
        | refine Exists.intro _ (And.intro rfl ?_)
        | refine Exists.intro (n + 1) (And.intro (by simp) ?_)
        | refine opt_use (by assumption) ?_
        | refine fun _ => ?_))
      | exact rfl)
  · refine ⟨n + 1, [0, 1], by omega, by omega, ?_⟩
    repeat' (first
      | ((conv => whnf); (first
        | refine Exists.intro p0 (Exists.intro p1 (Exists.intro p2 (And.intro (err_app hE) ?_)))
        | refine brK_dec (fun _ => ?_) (fun _ => ?_)
        | refine brK_ndec (fun _ => ?_) (fun _ => ?_)
        | refine brK_not (fun _ => ?_) (fun _ => ?_)
        | refine brK_in (fun _ => ?_) (fun _ => ?_)
        | refine And.intro (by first | exact rfl | exact ⟨_, rfl, rfl⟩ | exact ⟨rfl, rfl, rfl⟩ | exact of_decide_eq_true rfl | exact trivial | assumption | omega | (show (_ ≤ _ ∧ _ ≤ _); omega) | (simp; omega) | exact ⟨by first | omega | (simp; omega), _, rfl, rfl⟩) ?_
        | refine Both.mk ?_ ?_
        | refine Exists.intro _ (And.intro rfl ?_)
        | refine Exists.intro (n + 1) (And.intro (by simp) ?_)
        | refine opt_use (by assumption) ?_
        | refine fun _ => ?_))
      | exact rfl)
  · exact h
end Go.Proofs.YtenflffikgfphaaDoor
