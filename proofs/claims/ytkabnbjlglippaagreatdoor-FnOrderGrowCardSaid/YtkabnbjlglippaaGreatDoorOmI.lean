/-
The law FnOrderGrow.
No conditions.
-/
import Derived.Test.YtkabnbjlglippaaGreatDoorOlB
import Derived.Test.YtkabnbjlglippaaGreatDoorWbX
namespace Go.Proofs.YtkabnbjlglippaaGreatDoor
open Go Go.Vc
set_option maxHeartbeats 4000000
set_option maxRecDepth 10000
theorem slots_sub {c : List Int} {g g' : List VxD} {L : List Int} (hv : gV c g = true) (hv' : gV c g' = true) (h : Sub g' g) : slotsP c g' L <+: slotsP c g L := by
  unfold slotsP slotsO okO
  rw [hv, hv', Bool.true_and]
  split
  · exact (ord_grow (gV_ok hv) h).map _
  · exact List.prefix_refl _
theorem slots_two {c : List Int} {g a b : List VxD} {L : List Int} (hv : gV c g = true) (ha : gV c a = true) (hb : gV c b = true) (sa : Sub a g) (sb : Sub b g) : slotsP c a L <+: slotsP c b L ∨ slotsP c b L <+: slotsP c a L := by
  unfold slotsP slotsO okO
  rw [ha, hb, Bool.true_and]
  split
  · exact (ord_agree (gV_ok hv) sa sb).imp (fun h => h.map _) fun h => h.map _
  · exact .inl (List.prefix_refl _)
theorem k_laws_FnOrderGrow : Keeps' Tryz.prog 14 c_ordLaw2 := by
  refine keeps_of_vc mix TyT_ok (cok_cons k_spec_DrawOrderSlots Tryz.func30 rfl rfl (cok_cons k_impl_OrderSlots Tryz.func26 rfl rfl (cok_cons k_spec_OrderSlots Tryz.func25 rfl rfl (cok_cons k_laws_sameSlots Tryz.func31 rfl rfl (cok_cons k_spec_GraphValid Tryz.func45 rfl rfl (cok_cons k_laws_view Tryz.func46 rfl rfl (cok_cons k_impl_SlotsPrefix Tryz.func47 rfl rfl cok_nil))))))) Tryz.func14 rfl rfl rfl ?_
  intro aargs hs Fs K h
  simp only [c_ordLaw2] at h
  split at h
  case h_2 => exact h.elim
  rename_i b b2
  obtain ⟨rfl, p0, p1, p2, hE, hb, hb2, h⟩ := h
  repeat' (first|((conv=>whnf); (first|refine Exists.intro p0 (Exists.intro p1 (Exists.intro p2 (And.intro (err_app hE) ?_)))|refine brK_dec (fun _=>?_) (fun _=>?_)|refine brK_ndec (fun _=>?_) (fun _=>?_)|refine brK_not (fun _=>?_) (fun _=>?_)|refine brK_in (fun _=>?_) (fun _=>?_)|refine And.intro (by first|exact rfl|exact ⟨_,rfl,rfl⟩|exact ⟨rfl,rfl,rfl⟩|exact of_decide_eq_true rfl|exact trivial|assumption|omega|(show (_ ≤ _ ∧ _ ≤ _); omega)|(simp; omega)|exact ⟨by first|omega|(simp; omega),_,rfl,rfl⟩) ?_|refine Quo.l (And.intro (by first|exact rfl|assumption|omega|(simp; omega)) ?_)|refine Quo.r (And.intro (by omega) ?_)|refine Both.mk ?_ ?_|refine Exists.intro _ (And.intro rfl ?_)|refine opt_use (by assumption) ?_|refine prow_use (by assumption) ?_|refine vrow_use (by assumption) ?_|refine fun _=>?_))|exact rfl)
  · exact h
  · exact h
  rename_i h1 h2 c g L p3 p4 p5 p6
  have hgs := gfit_small p5
  have hsl := slotsP_len (c := c) (g := g) (L := L)
  have hsm := slotsP_map (c := c) (g := g) (L := L)
  have hwl := wavI_len (c := c) (g := g) (L := L)
  have hs2 : (slotsP c g L).length < 2000000000 := by omega
  repeat' (first|((conv=>whnf); (first|refine Exists.intro p0 (Exists.intro p1 (Exists.intro p2 (And.intro (err_app hE) ?_)))|refine Exists.intro (slotsP c g L) (Exists.intro (slotsP c g L) (And.intro rfl (And.intro rfl (And.intro hs2 (And.intro hs2 ?_)))))|refine brK_dec (fun _=>?_) (fun _=>?_)|refine brK_ndec (fun _=>?_) (fun _=>?_)|refine brK_not (fun _=>?_) (fun _=>?_)|refine brK_in (fun _=>?_) (fun _=>?_)|refine And.intro (by first|exact rfl|exact ⟨_,rfl,rfl⟩|exact ⟨rfl,rfl,rfl⟩|exact of_decide_eq_true rfl|exact trivial|assumption|omega|(show (_ ≤ _ ∧ _ ≤ _); omega)|(simp; omega)|exact ⟨by first|omega|(simp; omega),_,rfl,rfl⟩) ?_|refine Quo.l (And.intro (by first|exact rfl|assumption|omega|(simp; omega)) ?_)|refine Quo.r (And.intro (by omega) ?_)|refine Both.mk ?_ ?_|refine Exists.intro _ (And.intro rfl ?_)|refine opt_use (by assumption) ?_|refine prow_use (by assumption) ?_|refine vrow_use (by assumption) ?_|refine fun _=>?_))|exact rfl)
  · simpa using h
  · simpa using h
  rename_i e1 g' q1 q2 q3 q4
  have hl := slotsP_len (c := c) (g := g') (L := L)
  refine ⟨slotsP c g' L, slotsP c g L, rfl, rfl, by omega, hs2, ?_⟩
  repeat' (first|((conv=>whnf); (first|refine Exists.intro p0 (Exists.intro p1 (Exists.intro p2 (And.intro (err_app hE) ?_)))|refine Exists.intro (slotsP c g L) (Exists.intro (slotsP c g L) (And.intro rfl (And.intro rfl (And.intro hs2 (And.intro hs2 ?_)))))|refine brK_dec (fun _=>?_) (fun _=>?_)|refine brK_ndec (fun _=>?_) (fun _=>?_)|refine brK_not (fun _=>?_) (fun _=>?_)|refine brK_in (fun _=>?_) (fun _=>?_)|refine And.intro (by first|exact rfl|exact ⟨_,rfl,rfl⟩|exact ⟨rfl,rfl,rfl⟩|exact of_decide_eq_true rfl|exact trivial|assumption|omega|(show (_ ≤ _ ∧ _ ≤ _); omega)|(simp; omega)|exact ⟨by first|omega|(simp; omega),_,rfl,rfl⟩) ?_|refine Quo.l (And.intro (by first|exact rfl|assumption|omega|(simp; omega)) ?_)|refine Quo.r (And.intro (by omega) ?_)|refine Both.mk ?_ ?_|refine Exists.intro _ (And.intro rfl ?_)|refine opt_use (by assumption) ?_|refine prow_use (by assumption) ?_|refine vrow_use (by assumption) ?_|refine fun _=>?_))|exact rfl)
  rw [prefP_of (slots_sub e1 q2 q1)]
  exact h
theorem k_laws_FnOrderAgree : Keeps' Tryz.prog 13 c_ordLaw2 := by
  refine keeps_of_vc mix TyT_ok (cok_cons k_spec_DrawOrderSlots Tryz.func30 rfl rfl (cok_cons k_impl_OrderSlots Tryz.func26 rfl rfl (cok_cons k_spec_OrderSlots Tryz.func25 rfl rfl (cok_cons k_laws_sameSlots Tryz.func31 rfl rfl (cok_cons k_spec_GraphValid Tryz.func45 rfl rfl (cok_cons k_laws_view Tryz.func46 rfl rfl (cok_cons k_impl_SlotsPrefix Tryz.func47 rfl rfl cok_nil))))))) Tryz.func13 rfl rfl rfl ?_
  intro aargs hs Fs K h
  simp only [c_ordLaw2] at h
  split at h
  case h_2 => exact h.elim
  rename_i b b2
  obtain ⟨rfl, p0, p1, p2, hE, hb, hb2, h⟩ := h
  repeat' (first|((conv=>whnf); (first|refine Exists.intro p0 (Exists.intro p1 (Exists.intro p2 (And.intro (err_app hE) ?_)))|refine brK_dec (fun _=>?_) (fun _=>?_)|refine brK_ndec (fun _=>?_) (fun _=>?_)|refine brK_not (fun _=>?_) (fun _=>?_)|refine brK_in (fun _=>?_) (fun _=>?_)|refine And.intro (by first|exact rfl|exact ⟨_,rfl,rfl⟩|exact ⟨rfl,rfl,rfl⟩|exact of_decide_eq_true rfl|exact trivial|assumption|omega|(show (_ ≤ _ ∧ _ ≤ _); omega)|(simp; omega)|exact ⟨by first|omega|(simp; omega),_,rfl,rfl⟩) ?_|refine Quo.l (And.intro (by first|exact rfl|assumption|omega|(simp; omega)) ?_)|refine Quo.r (And.intro (by omega) ?_)|refine Both.mk ?_ ?_|refine Exists.intro _ (And.intro rfl ?_)|refine opt_use (by assumption) ?_|refine fun _=>?_))|exact rfl)
  · exact h
  · exact h
  rename_i h1 h2 c g L p3 p4 p5 p6
  have hgs := gfit_small p5
  have hsl := slotsP_len (c := c) (g := g) (L := L)
  have hs2 : (slotsP c g L).length < 2000000000 := by omega
  repeat' (first|((conv=>whnf); (first|refine Exists.intro p0 (Exists.intro p1 (Exists.intro p2 (And.intro (err_app hE) ?_)))|refine Exists.intro (slotsP c g L) (Exists.intro (slotsP c g L) (And.intro rfl (And.intro rfl (And.intro hs2 (And.intro hs2 ?_)))))|refine brK_dec (fun _=>?_) (fun _=>?_)|refine brK_ndec (fun _=>?_) (fun _=>?_)|refine brK_not (fun _=>?_) (fun _=>?_)|refine brK_in (fun _=>?_) (fun _=>?_)|refine And.intro (by first|exact rfl|exact ⟨_,rfl,rfl⟩|exact ⟨rfl,rfl,rfl⟩|exact of_decide_eq_true rfl|exact trivial|assumption|omega|(show (_ ≤ _ ∧ _ ≤ _); omega)|(simp; omega)|exact ⟨by first|omega|(simp; omega),_,rfl,rfl⟩) ?_|refine Quo.l (And.intro (by first|exact rfl|assumption|omega|(simp; omega)) ?_)|refine Quo.r (And.intro (by omega) ?_)|refine Both.mk ?_ ?_|refine Exists.intro _ (And.intro rfl ?_)|refine opt_use (by assumption) ?_|refine fun _=>?_))|exact rfl)
  · simpa using h
  · simpa using h
  rename_i e1 ga a1 a2 a3 a4 gb c1 c2 c3 c4
  have hla := slotsP_len (c := c) (g := ga) (L := L)
  have hlb := slotsP_len (c := c) (g := gb) (L := L)
  refine ⟨slotsP c ga L, slotsP c gb L, rfl, rfl, by omega, by omega, ?_⟩
  repeat' (first|((conv=>whnf); (first|refine Exists.intro p0 (Exists.intro p1 (Exists.intro p2 (And.intro (err_app hE) ?_)))|refine Exists.intro (slotsP c g L) (Exists.intro (slotsP c g L) (And.intro rfl (And.intro rfl (And.intro hs2 (And.intro hs2 ?_)))))|refine brK_dec (fun _=>?_) (fun _=>?_)|refine brK_ndec (fun _=>?_) (fun _=>?_)|refine brK_not (fun _=>?_) (fun _=>?_)|refine brK_in (fun _=>?_) (fun _=>?_)|refine And.intro (by first|exact rfl|exact ⟨_,rfl,rfl⟩|exact ⟨rfl,rfl,rfl⟩|exact of_decide_eq_true rfl|exact trivial|assumption|omega|(show (_ ≤ _ ∧ _ ≤ _); omega)|(simp; omega)|exact ⟨by first|omega|(simp; omega),_,rfl,rfl⟩) ?_|refine Quo.l (And.intro (by first|exact rfl|assumption|omega|(simp; omega)) ?_)|refine Quo.r (And.intro (by omega) ?_)|refine Both.mk ?_ ?_|refine Exists.intro _ (And.intro rfl ?_)|refine opt_use (by assumption) ?_|refine fun _=>?_))|exact rfl)
  · exact h
  rename_i e2
  refine ⟨slotsP c gb L, slotsP c ga L, rfl, rfl, by omega, by omega, ?_⟩
  repeat' (first|((conv=>whnf); (first|refine Exists.intro p0 (Exists.intro p1 (Exists.intro p2 (And.intro (err_app hE) ?_)))|refine Exists.intro (slotsP c g L) (Exists.intro (slotsP c g L) (And.intro rfl (And.intro rfl (And.intro hs2 (And.intro hs2 ?_)))))|refine brK_dec (fun _=>?_) (fun _=>?_)|refine brK_ndec (fun _=>?_) (fun _=>?_)|refine brK_not (fun _=>?_) (fun _=>?_)|refine brK_in (fun _=>?_) (fun _=>?_)|refine And.intro (by first|exact rfl|exact ⟨_,rfl,rfl⟩|exact ⟨rfl,rfl,rfl⟩|exact of_decide_eq_true rfl|exact trivial|assumption|omega|(show (_ ≤ _ ∧ _ ≤ _); omega)|(simp; omega)|exact ⟨by first|omega|(simp; omega),_,rfl,rfl⟩) ?_|refine Quo.l (And.intro (by first|exact rfl|assumption|omega|(simp; omega)) ?_)|refine Quo.r (And.intro (by omega) ?_)|refine Both.mk ?_ ?_|refine Exists.intro _ (And.intro rfl ?_)|refine opt_use (by assumption) ?_|refine fun _=>?_))|exact rfl)
  rcases slots_two e1 a2 c2 a1 c1 with h3 | h3
  · rw [prefP_of h3] at e2
    cases e2
  · rw [prefP_of h3]
    exact h
end Go.Proofs.YtkabnbjlglippaaGreatDoor
