/-
The law FnOrderLeaders.
No conditions.
-/
import Derived.Test.YtkabnbjlglippaaGreatDoorOlB
namespace Go.Proofs.YtkabnbjlglippaaGreatDoor
open Go Go.Vc
set_option maxHeartbeats 4000000
set_option maxRecDepth 10000
theorem cnt_start {c : List Int} {g : List VxD} {L : List Int} : cntL L (outV c g L) ((slotsO c g L).drop 0) 0 = (wavI c g L).length := by
  rw [List.drop_zero]
  cases e : okO c g L with
  | false =>
    have e2 : wavI c g L = [] := by
      have e : (gV c g && leadersV c L) = false := e
      rw [wavI, e]
      rfl
    rw [okO_no e, e2]
    rfl
  | true =>
    rw [wavI_ok e, slotsO, if_pos e, cntL_all (gV_sorted (slots_gV e)) out_asc out_has]
    simp
theorem cnt_step {L : List Int} {W : List Nat} {l : List VxD} {i n : Nat} {v : VxD} (hv : l[i]? = some v) : cntL L W (l.drop i) n = cntL L W (l.drop (i + 1)) (if hitL L W n v = true then n + 1 else n) := by
  obtain ⟨h1, h2⟩ := List.getElem?_eq_some_iff.1 hv
  rw [List.drop_eq_getElem_cons h1, h2]
  rfl
theorem hit_no {L : List Int} {W : List Nat} {n : Nat} {v : VxD} (h : W.length ≤ n) : hitL L W n v = false := by
  unfold hitL
  rw [List.getElem?_eq_none h]
theorem hit_at {L : List Int} {W : List Nat} {n w : Nat} {v : VxD} (h : W[n]? = some w) : hitL L W n v = true ↔ v.r = 2 * (w : Int) - 1 ∧ v.a = L.getD (w - 1) 0 := by
  unfold hitL
  rw [h]
  simp
theorem k_laws_FnOrderLeaders : Keeps' Tryz.prog 5 c_ordLaw := by
  refine keeps_of_vc mix TyT_ok (cok_cons k_spec_DrawOrderSlots Tryz.func30 rfl rfl (cok_cons k_impl_OrderSlots Tryz.func26 rfl rfl (cok_cons k_spec_OrderSlots Tryz.func25 rfl rfl (cok_cons k_laws_sameSlots Tryz.func31 rfl rfl (cok_cons k_impl_CommitWaves Tryz.func32 rfl rfl cok_nil))))) Tryz.func5 rfl rfl rfl ?_
  intro aargs hs Fs K h
  simp only [c_ordLaw] at h
  split at h
  case h_2 => exact h.elim
  rename_i b
  obtain ⟨rfl, p0, p1, p2, hE, hb, h⟩ := h
  repeat' (first|((conv=>whnf); (first|refine Exists.intro p0 (Exists.intro p1 (Exists.intro p2 (And.intro (err_app hE) ?_)))|refine brK_dec (fun _=>?_) (fun _=>?_)|refine brK_ndec (fun _=>?_) (fun _=>?_)|refine brK_not (fun _=>?_) (fun _=>?_)|refine brK_in (fun _=>?_) (fun _=>?_)|refine And.intro (by first|exact rfl|exact ⟨_,rfl,rfl⟩|exact ⟨rfl,rfl,rfl⟩|exact of_decide_eq_true rfl|exact trivial|assumption|omega|(show (_ ≤ _ ∧ _ ≤ _); omega)|(simp; omega)|exact ⟨by first|omega|(simp; omega),_,rfl,rfl⟩) ?_|refine Quo.l (And.intro (by first|exact rfl|assumption|omega|(simp; omega)) ?_)|refine Quo.r (And.intro (by omega) ?_)|refine Both.mk ?_ ?_|refine Exists.intro _ (And.intro rfl ?_)|refine opt_use (by assumption) ?_|refine prow_use (by assumption) ?_|refine vrow_use (by assumption) ?_|refine fun _=>?_))|exact rfl)
  · exact h
  rename_i h1 c g L p3 p4 p5 p6
  have hgs := gfit_small p5
  have hsl := slotsP_len (c := c) (g := g) (L := L)
  have hsm := slotsP_map (c := c) (g := g) (L := L)
  have hwl := wavI_len (c := c) (g := g) (L := L)
  have hs2 : (slotsP c g L).length < 2000000000 := by omega
  repeat' (first|((conv=>whnf); (first|refine Exists.intro p0 (Exists.intro p1 (Exists.intro p2 (And.intro (err_app hE) ?_)))|refine Exists.intro (slotsP c g L) (Exists.intro (slotsP c g L) (And.intro rfl (And.intro rfl (And.intro hs2 (And.intro hs2 ?_)))))|refine brK_dec (fun _=>?_) (fun _=>?_)|refine brK_ndec (fun _=>?_) (fun _=>?_)|refine brK_not (fun _=>?_) (fun _=>?_)|refine brK_in (fun _=>?_) (fun _=>?_)|refine And.intro (by first|exact rfl|exact ⟨_,rfl,rfl⟩|exact ⟨rfl,rfl,rfl⟩|exact of_decide_eq_true rfl|exact trivial|assumption|omega|(show (_ ≤ _ ∧ _ ≤ _); omega)|(simp; omega)|exact ⟨by first|omega|(simp; omega),_,rfl,rfl⟩) ?_|refine Quo.l (And.intro (by first|exact rfl|assumption|omega|(simp; omega)) ?_)|refine Quo.r (And.intro (by omega) ?_)|refine Both.mk ?_ ?_|refine Exists.intro _ (And.intro rfl ?_)|refine opt_use (by assumption) ?_|refine prow_use (by assumption) ?_|refine vrow_use (by assumption) ?_|refine fun _=>?_))|exact rfl)
  · simpa using h
  refine loop_in (ι := Nat × Nat) (fun t => mkS 85 [(5, .ints L), (6, .own 0), (8, .own 1), (9, I t.2), (10, I t.1)] [.arr 2 ((slotsP c g L).map pR), .iarr (wavI c g L)] Fs)
    (fun t => t.1 ≤ (slotsP c g L).length ∧ t.2 ≤ (wavI c g L).length ∧ cntL L (outV c g L) ((slotsO c g L).drop t.1) t.2 = (wavI c g L).length) (fun t => (slotsP c g L).length - t.1) (0, 0) [0, 2] ⟨Nat.zero_le _, Nat.zero_le _, cnt_start⟩ ?_ ?_
  · repeat' (first|((conv=>whnf); (first|refine Exists.intro p0 (Exists.intro p1 (Exists.intro p2 (And.intro (err_app hE) ?_)))|refine Exists.intro (slotsP c g L) (Exists.intro (slotsP c g L) (And.intro rfl (And.intro rfl (And.intro hs2 (And.intro hs2 ?_)))))|refine brK_dec (fun _=>?_) (fun _=>?_)|refine brK_ndec (fun _=>?_) (fun _=>?_)|refine brK_not (fun _=>?_) (fun _=>?_)|refine brK_in (fun _=>?_) (fun _=>?_)|refine And.intro (by first|exact rfl|exact ⟨_,rfl,rfl⟩|exact ⟨rfl,rfl,rfl⟩|exact of_decide_eq_true rfl|exact trivial|assumption|omega|(show (_ ≤ _ ∧ _ ≤ _); omega)|(simp; omega)|exact ⟨by first|omega|(simp; omega),_,rfl,rfl⟩) ?_|refine Quo.l (And.intro (by first|exact rfl|assumption|omega|(simp; omega)) ?_)|refine Quo.r (And.intro (by omega) ?_)|refine Both.mk ?_ ?_|refine Exists.intro _ (And.intro rfl ?_)|refine opt_use (by assumption) ?_|refine prow_use (by assumption) ?_|refine vrow_use (by assumption) ?_|refine fun _=>?_))|exact rfl)
  rintro ⟨i, n⟩ ⟨hi, hn, hc⟩
  dsimp only at hi hn hc ⊢
  rcases Nat.lt_or_ge i (slotsP c g L).length with hil | hil
  · obtain ⟨k, w, v, q1, q2, q3, q4, q5, q6, q7⟩ := slotsP_at hil
    have q8 : (slotsP c g L)[((i : Nat) : Int).toNat]? = some (v.r, v.a) := q6
    rw [cnt_step q7] at hc
    rcases Nat.lt_or_ge n (wavI c g L).length with hnl | hnl
    · obtain ⟨m, k2, u, r1, r2, r3, r4, r5, r6, r7, r8, r9, r10⟩ := wavI_pos hnl
      have r11 : (wavI c g L)[((n : Nat) : Int).toNat]? = some (m : Int) := r1
      have hit := hit_at (L := L) (v := v) r2
      rw [← r8] at hit
      have r12 : L[((m : Int) - 1).toNat]? = some u.a := by
        rw [show ((m : Int) - 1).toNat = m - 1 by omega]
        exact r9
      repeat' (first|((conv=>whnf); (first|refine draw_plan (id := 13) [] [] (.take 0 (.take 1 (.take 2 (.take 3 (.take 4 (.take 5 (.take 6 (.take 7 (.take 8 (.take 9 (.take 10 (.take 11 (.take 12 (.take 13 (.take 14 (.take 15 (.take 16 (.take 17 (.take 18 (.take 19 (.take 20 (.take 21 (.take 22 (.take 23 (.take 24 (.take 25 (.take 26 (.take 27 (.take 28 (.take 29 (.take 30 (.take 31 (.take 32 (.take 33 .done)))))))))))))))))))))))))))))))))) (by kernel_rfl) (by kernel_rfl) ?_|refine brK_dec (fun _=>?_) (fun _=>?_)|refine brK_ndec (fun _=>?_) (fun _=>?_)|refine brK_not (fun _=>?_) (fun _=>?_)|refine brK_in (fun _=>?_) (fun _=>?_)|refine And.intro (by first|exact rfl|exact ⟨_,rfl,rfl⟩|exact ⟨rfl,rfl,rfl⟩|exact of_decide_eq_true rfl|exact trivial|assumption|omega|(show (_ ≤ _ ∧ _ ≤ _); omega)|(simp; omega)|exact ⟨by first|omega|(simp; omega),_,rfl,rfl⟩) ?_|refine Quo.l (And.intro (by first|exact rfl|assumption|omega|(simp; omega)) ?_)|refine Quo.r (And.intro (by omega) ?_)|refine Both.mk ?_ ?_|refine Exists.intro _ (And.intro rfl ?_)|refine opt_use (by assumption) ?_|refine prow_use (by assumption) ?_|refine vrow_use (by assumption) ?_|refine fun _=>?_))|exact rfl)
      · rename_i e1 e2
        rw [if_pos (hit.2 ⟨e1, e2⟩)] at hc
        refine ⟨(i + 1, n + 1), [0, 1], ⟨by dsimp only; omega, by dsimp only; omega, hc⟩, by dsimp only; omega, ?_⟩
        repeat' (first|((conv=>whnf); (first|refine brK_dec (fun _=>?_) (fun _=>?_)|refine brK_ndec (fun _=>?_) (fun _=>?_)|refine brK_not (fun _=>?_) (fun _=>?_)|refine brK_in (fun _=>?_) (fun _=>?_)|refine And.intro (by first|exact rfl|exact ⟨_,rfl,rfl⟩|exact ⟨rfl,rfl,rfl⟩|exact of_decide_eq_true rfl|exact trivial|assumption|omega|(show (_ ≤ _ ∧ _ ≤ _); omega)|(simp; omega)|exact ⟨by first|omega|(simp; omega),_,rfl,rfl⟩) ?_|refine Quo.l (And.intro (by first|exact rfl|assumption|omega|(simp; omega)) ?_)|refine Quo.r (And.intro (by omega) ?_)|refine Both.mk ?_ ?_|refine Exists.intro _ (And.intro rfl ?_)|refine opt_use (by assumption) ?_|refine prow_use (by assumption) ?_|refine vrow_use (by assumption) ?_|refine fun _=>?_))|exact rfl)
      · rename_i e1 e2
        rw [if_neg fun hh => e2 (hit.1 hh).2] at hc
        refine ⟨(i + 1, n), [0, 1], ⟨by dsimp only; omega, by dsimp only; omega, hc⟩, by dsimp only; omega, ?_⟩
        repeat' (first|((conv=>whnf); (first|refine brK_dec (fun _=>?_) (fun _=>?_)|refine brK_ndec (fun _=>?_) (fun _=>?_)|refine brK_not (fun _=>?_) (fun _=>?_)|refine brK_in (fun _=>?_) (fun _=>?_)|refine And.intro (by first|exact rfl|exact ⟨_,rfl,rfl⟩|exact ⟨rfl,rfl,rfl⟩|exact of_decide_eq_true rfl|exact trivial|assumption|omega|(show (_ ≤ _ ∧ _ ≤ _); omega)|(simp; omega)|exact ⟨by first|omega|(simp; omega),_,rfl,rfl⟩) ?_|refine Quo.l (And.intro (by first|exact rfl|assumption|omega|(simp; omega)) ?_)|refine Quo.r (And.intro (by omega) ?_)|refine Both.mk ?_ ?_|refine Exists.intro _ (And.intro rfl ?_)|refine opt_use (by assumption) ?_|refine prow_use (by assumption) ?_|refine vrow_use (by assumption) ?_|refine fun _=>?_))|exact rfl)
      · rename_i e1
        rw [if_neg fun hh => e1 (hit.1 hh).1] at hc
        refine ⟨(i + 1, n), [0, 1], ⟨by dsimp only; omega, by dsimp only; omega, hc⟩, by dsimp only; omega, ?_⟩
        repeat' (first|((conv=>whnf); (first|refine brK_dec (fun _=>?_) (fun _=>?_)|refine brK_ndec (fun _=>?_) (fun _=>?_)|refine brK_not (fun _=>?_) (fun _=>?_)|refine brK_in (fun _=>?_) (fun _=>?_)|refine And.intro (by first|exact rfl|exact ⟨_,rfl,rfl⟩|exact ⟨rfl,rfl,rfl⟩|exact of_decide_eq_true rfl|exact trivial|assumption|omega|(show (_ ≤ _ ∧ _ ≤ _); omega)|(simp; omega)|exact ⟨by first|omega|(simp; omega),_,rfl,rfl⟩) ?_|refine Quo.l (And.intro (by first|exact rfl|assumption|omega|(simp; omega)) ?_)|refine Quo.r (And.intro (by omega) ?_)|refine Both.mk ?_ ?_|refine Exists.intro _ (And.intro rfl ?_)|refine opt_use (by assumption) ?_|refine prow_use (by assumption) ?_|refine vrow_use (by assumption) ?_|refine fun _=>?_))|exact rfl)
      · omega
      · omega
    · have hWl : (wavI c g L).length = (outV c g L).length := by rw [wavI_ok q1]; simp
      rw [if_neg (by rw [hit_no (by omega)]; simp)] at hc
      repeat' (first|((conv=>whnf); (first|refine draw_plan (id := 13) [] [] (.take 0 (.take 1 (.take 2 (.take 3 (.take 4 (.take 5 (.take 6 (.take 7 (.take 8 (.take 9 (.take 10 (.take 11 (.take 12 (.take 13 (.take 14 (.take 15 (.take 16 (.take 17 (.take 18 (.take 19 (.take 20 (.take 21 (.take 22 (.take 23 (.take 24 (.take 25 (.take 26 (.take 27 (.take 28 (.take 29 (.take 30 (.take 31 (.take 32 (.take 33 .done)))))))))))))))))))))))))))))))))) (by kernel_rfl) (by kernel_rfl) ?_|refine brK_dec (fun _=>?_) (fun _=>?_)|refine brK_ndec (fun _=>?_) (fun _=>?_)|refine brK_not (fun _=>?_) (fun _=>?_)|refine brK_in (fun _=>?_) (fun _=>?_)|refine And.intro (by first|exact rfl|exact ⟨_,rfl,rfl⟩|exact ⟨rfl,rfl,rfl⟩|exact of_decide_eq_true rfl|exact trivial|assumption|omega|(show (_ ≤ _ ∧ _ ≤ _); omega)|(simp; omega)|exact ⟨by first|omega|(simp; omega),_,rfl,rfl⟩) ?_|refine Quo.l (And.intro (by first|exact rfl|assumption|omega|(simp; omega)) ?_)|refine Quo.r (And.intro (by omega) ?_)|refine Both.mk ?_ ?_|refine Exists.intro _ (And.intro rfl ?_)|refine opt_use (by assumption) ?_|refine prow_use (by assumption) ?_|refine vrow_use (by assumption) ?_|refine fun _=>?_))|exact rfl)
      all_goals first
        | (exfalso; omega)
        | skip
      refine ⟨(i + 1, n), [0, 1], ⟨by dsimp only; omega, by dsimp only; omega, hc⟩, by dsimp only; omega, ?_⟩
      repeat' (first|((conv=>whnf); (first|refine brK_dec (fun _=>?_) (fun _=>?_)|refine brK_ndec (fun _=>?_) (fun _=>?_)|refine brK_not (fun _=>?_) (fun _=>?_)|refine brK_in (fun _=>?_) (fun _=>?_)|refine And.intro (by first|exact rfl|exact ⟨_,rfl,rfl⟩|exact ⟨rfl,rfl,rfl⟩|exact of_decide_eq_true rfl|exact trivial|assumption|omega|(show (_ ≤ _ ∧ _ ≤ _); omega)|(simp; omega)|exact ⟨by first|omega|(simp; omega),_,rfl,rfl⟩) ?_|refine Quo.l (And.intro (by first|exact rfl|assumption|omega|(simp; omega)) ?_)|refine Quo.r (And.intro (by omega) ?_)|refine Both.mk ?_ ?_|refine Exists.intro _ (And.intro rfl ?_)|refine opt_use (by assumption) ?_|refine prow_use (by assumption) ?_|refine vrow_use (by assumption) ?_|refine fun _=>?_))|exact rfl)
  · have hd : (slotsO c g L).drop i = [] := List.drop_of_length_le (by
      have : (slotsP c g L).length = (slotsO c g L).length := by simp [slotsP]
      omega)
    rw [hd] at hc
    have hc : n = (wavI c g L).length := hc
    repeat' (first|((conv=>whnf); (first|refine brK_dec (fun _=>?_) (fun _=>?_)|refine brK_ndec (fun _=>?_) (fun _=>?_)|refine brK_not (fun _=>?_) (fun _=>?_)|refine brK_in (fun _=>?_) (fun _=>?_)|refine And.intro (by first|exact rfl|exact ⟨_,rfl,rfl⟩|exact ⟨rfl,rfl,rfl⟩|exact of_decide_eq_true rfl|exact trivial|assumption|omega|(show (_ ≤ _ ∧ _ ≤ _); omega)|(simp; omega)|exact ⟨by first|omega|(simp; omega),_,rfl,rfl⟩) ?_|refine Quo.l (And.intro (by first|exact rfl|assumption|omega|(simp; omega)) ?_)|refine Quo.r (And.intro (by omega) ?_)|refine Both.mk ?_ ?_|refine Exists.intro _ (And.intro rfl ?_)|refine opt_use (by assumption) ?_|refine prow_use (by assumption) ?_|refine vrow_use (by assumption) ?_|refine fun _=>?_))|exact rfl)
    · omega
    have e : decide ((n : Int) = ((wavI c g L).length : Int)) = true := decide_eq_true (by omega)
    rw [e]
    exact h
end Go.Proofs.YtkabnbjlglippaaGreatDoor
