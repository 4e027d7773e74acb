/-
The law FnOrderOnce.
No conditions.
-/
import Derived.Test.YtkabnbjlglippaaGreatDoorOlB
namespace Go.Proofs.YtkabnbjlglippaaGreatDoor
open Go Go.Vc
set_option maxHeartbeats 4000000
set_option maxRecDepth 10000
theorem once_at {c : List Int} {g : List VxD} {L : List Int} {i : Nat} {k w : Nat} {v : VxD} (q1 : okO c g L = true) (q2 : (ordV g L (outV c g L))[i]? = some (k, w)) (q3 : g[k]? = some v) : (v.r, v.a) ∉ (slotsP c g L).take i := by
  intro hm
  obtain ⟨j, hj⟩ := List.mem_iff_getElem?.1 hm
  rw [List.getElem?_take] at hj
  split at hj
  · rename_i hji
    obtain ⟨k2, w2, u, r1, r2, r3, r4, r5, r6, r7⟩ := slotsP_at (c := c) (g := g) (L := L) (List.getElem?_eq_some_iff.1 hj).1
    rw [hj] at r6
    have e1 : v.r = u.r := congrArg Prod.fst (Option.some.inj r6)
    have e2 : v.a = u.a := congrArg Prod.snd (Option.some.inj r6)
    have e := idx_uniq (gV_sorted (slots_gV q1)) q3 r3 e1 e2
    have := ord_once out_asc r2 q2 e.symm
    omega
  · cases hj
theorem k_laws_FnOrderOnce : Keeps' Tryz.prog 9 c_ordLaw := by
  refine keeps_of_vc mix TyT_ok (cok_cons k_spec_DrawOrderSlots Tryz.func30 rfl rfl (cok_cons k_impl_OrderSlots Tryz.func26 rfl rfl (cok_cons k_spec_OrderSlots Tryz.func25 rfl rfl (cok_cons k_laws_sameSlots Tryz.func31 rfl rfl (cok_cons k_impl_GraphFind Tryz.func37 rfl rfl (cok_cons k_laws_hasSlot Tryz.func34 rfl rfl cok_nil)))))) Tryz.func9 rfl rfl rfl ?_
  intro aargs hs Fs K h
  simp only [c_ordLaw] at h
  split at h
  case h_2 => exact h.elim
  rename_i b
  obtain ⟨rfl, p0, p1, p2, hE, hb, h⟩ := h
  repeat' (first|((conv=>whnf); (first|refine Exists.intro p0 (Exists.intro p1 (Exists.intro p2 (And.intro (err_app hE) ?_)))|refine brK_dec (fun _=>?_) (fun _=>?_)|refine brK_ndec (fun _=>?_) (fun _=>?_)|refine brK_not (fun _=>?_) (fun _=>?_)|refine brK_in (fun _=>?_) (fun _=>?_)|refine And.intro (by first|exact rfl|exact ⟨_,rfl,rfl⟩|exact ⟨rfl,rfl,rfl⟩|exact of_decide_eq_true rfl|exact trivial|assumption|omega|(show (_ ≤ _ ∧ _ ≤ _); omega)|(simp; omega)|exact ⟨by first|omega|(simp; omega),_,rfl,rfl⟩) ?_|refine Quo.l (And.intro (by first|exact rfl|assumption|omega|(simp; omega)) ?_)|refine Quo.r (And.intro (by omega) ?_)|refine Both.mk ?_ ?_|refine Exists.intro _ (And.intro rfl ?_)|refine opt_use (by assumption) ?_|refine prow_use (by assumption) ?_|refine vrow_use (by assumption) ?_|refine fun _=>?_))|exact rfl)
  · exact h
  rename_i h1 c g L p3 p4 p5 p6
  have hgs := gfit_small p5
  have hsl := slotsP_len (c := c) (g := g) (L := L)
  have hsm := slotsP_map (c := c) (g := g) (L := L)
  have hwl := wavI_len (c := c) (g := g) (L := L)
  have hs2 : (slotsP c g L).length < 2000000000 := by omega
  repeat' (first|((conv=>whnf); (first|refine Exists.intro p0 (Exists.intro p1 (Exists.intro p2 (And.intro (err_app hE) ?_)))|refine Exists.intro (slotsP c g L) (Exists.intro (slotsP c g L) (And.intro rfl (And.intro rfl (And.intro hs2 (And.intro hs2 ?_)))))|refine brK_dec (fun _=>?_) (fun _=>?_)|refine brK_ndec (fun _=>?_) (fun _=>?_)|refine brK_not (fun _=>?_) (fun _=>?_)|refine brK_in (fun _=>?_) (fun _=>?_)|refine And.intro (by first|exact rfl|exact ⟨_,rfl,rfl⟩|exact ⟨rfl,rfl,rfl⟩|exact of_decide_eq_true rfl|exact trivial|assumption|omega|(show (_ ≤ _ ∧ _ ≤ _); omega)|(simp; omega)|exact ⟨by first|omega|(simp; omega),_,rfl,rfl⟩) ?_|refine Quo.l (And.intro (by first|exact rfl|assumption|omega|(simp; omega)) ?_)|refine Quo.r (And.intro (by omega) ?_)|refine Both.mk ?_ ?_|refine Exists.intro _ (And.intro rfl ?_)|refine opt_use (by assumption) ?_|refine prow_use (by assumption) ?_|refine vrow_use (by assumption) ?_|refine fun _=>?_))|exact rfl)
  · simpa using h
  refine loop_in (ι := Nat) (fun i => mkS 63 [(3, .ints c), (4, .sl 4 (g.map VxD.row)), (5, .ints L), (6, .own 0), (8, I i)] [.arr 2 ((slotsP c g L).map pR)] Fs)
    (fun i => i ≤ (slotsP c g L).length) (fun i => (slotsP c g L).length - i) 0 [0] (Nat.zero_le _) ?_ ?_
  · repeat' (first|((conv=>whnf); (first|refine Exists.intro p0 (Exists.intro p1 (Exists.intro p2 (And.intro (err_app hE) ?_)))|refine Exists.intro (slotsP c g L) (Exists.intro (slotsP c g L) (And.intro rfl (And.intro rfl (And.intro hs2 (And.intro hs2 ?_)))))|refine brK_dec (fun _=>?_) (fun _=>?_)|refine brK_ndec (fun _=>?_) (fun _=>?_)|refine brK_not (fun _=>?_) (fun _=>?_)|refine brK_in (fun _=>?_) (fun _=>?_)|refine And.intro (by first|exact rfl|exact ⟨_,rfl,rfl⟩|exact ⟨rfl,rfl,rfl⟩|exact of_decide_eq_true rfl|exact trivial|assumption|omega|(show (_ ≤ _ ∧ _ ≤ _); omega)|(simp; omega)|exact ⟨by first|omega|(simp; omega),_,rfl,rfl⟩) ?_|refine Quo.l (And.intro (by first|exact rfl|assumption|omega|(simp; omega)) ?_)|refine Quo.r (And.intro (by omega) ?_)|refine Both.mk ?_ ?_|refine Exists.intro _ (And.intro rfl ?_)|refine opt_use (by assumption) ?_|refine prow_use (by assumption) ?_|refine vrow_use (by assumption) ?_|refine fun _=>?_))|exact rfl)
  intro i hi
  rcases Nat.lt_or_ge i (slotsP c g L).length with hil | hil
  · obtain ⟨k, w, v, q1, q2, q3, q4, q5, q6, q7⟩ := slotsP_at hil
    have q8 : (slotsP c g L)[((i : Nat) : Int).toNat]? = some (v.r, v.a) := q6
    have hfd : fndA g v.r v.a = (k : Int) := by rw [fndA, find_at (gV_sorted (slots_gV q1)) q3]
    have hgv := slots_gV q1
    have hno := once_at q1 q2 q3
    have htk : (List.take ((((i : Nat) : Int).toNat) - 0) (List.drop 0 ((slotsP c g L).map pR))) = ((slotsP c g L).take i).map pR := by simp
    have htl : ((slotsP c g L).take i).length < 2000000000 := by rw [List.length_take]; omega
    repeat' (first|((conv=>whnf); (first|refine draw_plan (id := 11) [] [] (.take 0 (.take 1 (.take 2 (.take 3 (.take 4 (.take 5 (.take 6 (.take 7 (.take 8 (.take 9 (.take 10 (.take 11 (.run 12 (.take 13 (.take 14 (.take 15 (.take 16 (.take 17 (.take 18 (.take 19 (.take 20 (.take 21 (.run 22 (.take 23 .done)))))))))))))))))))))))) (by kernel_rfl) (by kernel_rfl) ?_|refine Exists.intro ((slotsP c g L).take i) (And.intro htk (And.intro htl ?_))|refine brK_dec (fun _=>?_) (fun _=>?_)|refine brK_ndec (fun _=>?_) (fun _=>?_)|refine brK_not (fun _=>?_) (fun _=>?_)|refine brK_in (fun _=>?_) (fun _=>?_)|refine And.intro (by first|exact rfl|exact ⟨_,rfl,rfl⟩|exact ⟨rfl,rfl,rfl⟩|exact of_decide_eq_true rfl|exact trivial|assumption|omega|(show (_ ≤ _ ∧ _ ≤ _); omega)|(simp; omega)|exact ⟨by first|omega|(simp; omega),_,rfl,rfl⟩) ?_|refine Quo.l (And.intro (by first|exact rfl|assumption|omega|(simp; omega)) ?_)|refine Quo.r (And.intro (by omega) ?_)|refine Both.mk ?_ ?_|refine Exists.intro _ (And.intro rfl ?_)|refine opt_use (by assumption) ?_|refine prow_use (by assumption) ?_|refine vrow_use (by assumption) ?_|refine fun _=>?_))|exact rfl)
    · rename_i e
      rw [if_pos hgv] at e
      have e : fndA g v.r v.a < 0 := e
      omega
    · rename_i hm
      exact absurd hm hno
    · refine ⟨i + 1, [0], by omega, by omega, ?_⟩
      repeat' (first|((conv=>whnf); (first|refine brK_dec (fun _=>?_) (fun _=>?_)|refine brK_ndec (fun _=>?_) (fun _=>?_)|refine brK_not (fun _=>?_) (fun _=>?_)|refine brK_in (fun _=>?_) (fun _=>?_)|refine And.intro (by first|exact rfl|exact ⟨_,rfl,rfl⟩|exact ⟨rfl,rfl,rfl⟩|exact of_decide_eq_true rfl|exact trivial|assumption|omega|(show (_ ≤ _ ∧ _ ≤ _); omega)|(simp; omega)|exact ⟨by first|omega|(simp; omega),_,rfl,rfl⟩) ?_|refine Quo.l (And.intro (by first|exact rfl|assumption|omega|(simp; omega)) ?_)|refine Quo.r (And.intro (by omega) ?_)|refine Both.mk ?_ ?_|refine Exists.intro _ (And.intro rfl ?_)|refine opt_use (by assumption) ?_|refine prow_use (by assumption) ?_|refine vrow_use (by assumption) ?_|refine fun _=>?_))|exact rfl)
    · omega
  · repeat' (first|((conv=>whnf); (first|refine brK_dec (fun _=>?_) (fun _=>?_)|refine brK_ndec (fun _=>?_) (fun _=>?_)|refine brK_not (fun _=>?_) (fun _=>?_)|refine brK_in (fun _=>?_) (fun _=>?_)|refine And.intro (by first|exact rfl|exact ⟨_,rfl,rfl⟩|exact ⟨rfl,rfl,rfl⟩|exact of_decide_eq_true rfl|exact trivial|assumption|omega|(show (_ ≤ _ ∧ _ ≤ _); omega)|(simp; omega)|exact ⟨by first|omega|(simp; omega),_,rfl,rfl⟩) ?_|refine Quo.l (And.intro (by first|exact rfl|assumption|omega|(simp; omega)) ?_)|refine Quo.r (And.intro (by omega) ?_)|refine Both.mk ?_ ?_|refine Exists.intro _ (And.intro rfl ?_)|refine opt_use (by assumption) ?_|refine prow_use (by assumption) ?_|refine vrow_use (by assumption) ?_|refine fun _=>?_))|exact rfl)
    · omega
    · exact h
end Go.Proofs.YtkabnbjlglippaaGreatDoor
