/-
The law FnOrderCausal.
No conditions.
-/
import Derived.Test.YtkabnbjlglippaaGreatDoorOlB
import Derived.Test.YtkabnbjlglippaaGreatDoorWbX
namespace Go.Proofs.YtkabnbjlglippaaGreatDoor
open Go Go.Vc
set_option maxHeartbeats 4000000
set_option maxRecDepth 10000
theorem causal_at {c : List Int} {g : List VxD} {L : List Int} {i k w : Nat} {v : VxD} {x : Int} (q1 : okO c g L = true) (q2 : (ordV g L (outV c g L))[i]? = some (k, w)) (q3 : g[k]? = some v) (hx : x ∈ v.p) (hm : (v.r - 1, x) ∈ slotsP c g L) : (v.r - 1, x) ∈ (slotsP c g L).take i := by
  obtain ⟨j, u, hu, e1, e2, hw⟩ := (slots_mem q1).1 hm
  obtain ⟨hkW, _, hkw⟩ := ord_mem.1 (List.mem_of_getElem? q2)
  have hs := gV_sorted (slots_gV q1)
  have hfj : findV g (v.r - 1) x = some j := by
    have := find_at hs hu
    rw [e1, e2] at this
    exact this
  have hpar := par_mem q3 hx hfj
  have hah := ord_cause hs out_asc out_pos (by rw [hkw]; exact hkW) hw hpar
  rw [hkw] at hah
  obtain ⟨m, hm2⟩ := List.mem_iff_getElem?.1 (ord_mem.2 ⟨hw, (List.getElem?_eq_some_iff.1 hu).1, rfl⟩)
  have hlt := ord_lt out_asc hm2 q2 hah
  have hml : m < (slotsP c g L).length := by
    have := (List.getElem?_eq_some_iff.1 hm2).1
    rw [slotsP, slotsO_idx q1]
    simpa using this
  obtain ⟨k2, w2, u2, r1, r2, r3, r4, r5, r6, r7⟩ := slotsP_at hml
  rw [hm2] at r2
  cases r2
  rw [hu] at r3
  cases r3
  rw [e1, e2] at r6
  exact List.mem_of_getElem? (by rw [List.getElem?_take, if_pos hlt]; exact r6)
namespace Vw
theorem k_laws_FnOrderCausal : Keeps' Tryz.prog 8 c_ordLaw := by
  refine keeps_of_vc mix TyT_ok (cok_cons k_spec_DrawOrderSlots Tryz.func30 rfl rfl (cok_cons k_impl_OrderSlots Tryz.func26 rfl rfl (cok_cons k_spec_OrderSlots Tryz.func25 rfl rfl (cok_cons k_laws_sameSlots Tryz.func31 rfl rfl (cok_cons k_impl_GraphFind Tryz.func37 rfl rfl (cok_cons k_laws_hasSlot Tryz.func34 rfl rfl cok_nil)))))) Tryz.func8 rfl rfl rfl ?_
  intro aargs hs Fs K h
  simp only [c_ordLaw] at h
  split at h
  case h_2 => exact h.elim
  rename_i b
  obtain ⟨rfl, p0, p1, p2, hE, hb, h⟩ := h
  repeat' (first|((conv=>whnf); (first|refine Exists.intro p0 (Exists.intro p1 (Exists.intro p2 (And.intro (err_app hE) ?_)))|refine brK_dec (fun _=>?_) (fun _=>?_)|refine brK_ndec (fun _=>?_) (fun _=>?_)|refine brK_not (fun _=>?_) (fun _=>?_)|refine brK_in (fun _=>?_) (fun _=>?_)|refine And.intro (by first|exact rfl|exact ⟨_,rfl,rfl⟩|exact ⟨rfl,rfl,rfl⟩|exact of_decide_eq_true rfl|exact trivial|assumption|omega|(show (_ ≤ _ ∧ _ ≤ _); omega)|(simp; omega)|exact ⟨by first|omega|(simp; omega),_,rfl,rfl⟩) ?_|refine Quo.l (And.intro (by first|exact rfl|assumption|omega|(simp; omega)) ?_)|refine Quo.r (And.intro (by omega) ?_)|refine Both.mk ?_ ?_|refine Exists.intro _ (And.intro rfl ?_)|refine opt_use (by assumption) ?_|refine prow_use (by assumption) ?_|refine vrow_use (by assumption) ?_|refine fun _=>?_))|exact rfl)
  · exact h
  rename_i h1 c g L p3 p4 p5 p6
  have hgs := gfit_small p5
  have hsl := slotsP_len (c := c) (g := g) (L := L)
  have hsm := slotsP_map (c := c) (g := g) (L := L)
  have hs2 : (slotsP c g L).length < 2000000000 := by omega
  repeat' (first|((conv=>whnf); (first|refine Exists.intro p0 (Exists.intro p1 (Exists.intro p2 (And.intro (err_app hE) ?_)))|refine Exists.intro (slotsP c g L) (Exists.intro (slotsP c g L) (And.intro rfl (And.intro rfl (And.intro hs2 (And.intro hs2 ?_)))))|refine brK_dec (fun _=>?_) (fun _=>?_)|refine brK_ndec (fun _=>?_) (fun _=>?_)|refine brK_not (fun _=>?_) (fun _=>?_)|refine brK_in (fun _=>?_) (fun _=>?_)|refine And.intro (by first|exact rfl|exact ⟨_,rfl,rfl⟩|exact ⟨rfl,rfl,rfl⟩|exact of_decide_eq_true rfl|exact trivial|assumption|omega|(show (_ ≤ _ ∧ _ ≤ _); omega)|(simp; omega)|exact ⟨by first|omega|(simp; omega),_,rfl,rfl⟩) ?_|refine Quo.l (And.intro (by first|exact rfl|assumption|omega|(simp; omega)) ?_)|refine Quo.r (And.intro (by omega) ?_)|refine Both.mk ?_ ?_|refine Exists.intro _ (And.intro rfl ?_)|refine opt_use (by assumption) ?_|refine prow_use (by assumption) ?_|refine vrow_use (by assumption) ?_|refine fun _=>?_))|exact rfl)
  · simpa using h
  refine loop_in (ι := Nat) (fun i => mkS 85 [(3, .ints c), (4, .sl 4 (g.map VxD.row)), (5, .ints L), (6, .own 0), (8, I i)] [.arr 2 ((slotsP c g L).map pR)] Fs)
    (fun i => i ≤ (slotsP c g L).length) (fun i => (slotsP c g L).length - i) 0 [0] (Nat.zero_le _) ?_ ?_
  · repeat' (first|((conv=>whnf); (first|refine Exists.intro p0 (Exists.intro p1 (Exists.intro p2 (And.intro (err_app hE) ?_)))|refine Exists.intro (slotsP c g L) (Exists.intro (slotsP c g L) (And.intro rfl (And.intro rfl (And.intro hs2 (And.intro hs2 ?_)))))|refine brK_dec (fun _=>?_) (fun _=>?_)|refine brK_ndec (fun _=>?_) (fun _=>?_)|refine brK_not (fun _=>?_) (fun _=>?_)|refine brK_in (fun _=>?_) (fun _=>?_)|refine And.intro (by first|exact rfl|exact ⟨_,rfl,rfl⟩|exact ⟨rfl,rfl,rfl⟩|exact of_decide_eq_true rfl|exact trivial|assumption|omega|(show (_ ≤ _ ∧ _ ≤ _); omega)|(simp; omega)|exact ⟨by first|omega|(simp; omega),_,rfl,rfl⟩) ?_|refine Quo.l (And.intro (by first|exact rfl|assumption|omega|(simp; omega)) ?_)|refine Quo.r (And.intro (by omega) ?_)|refine Both.mk ?_ ?_|refine Exists.intro _ (And.intro rfl ?_)|refine opt_use (by assumption) ?_|refine prow_use (by assumption) ?_|refine vrow_use (by assumption) ?_|refine fun _=>?_))|exact rfl)
  intro i hi
  rcases Nat.lt_or_ge i (slotsP c g L).length with hil | hil
  rotate_left
  · repeat' (first|((conv=>whnf); (first|refine brK_dec (fun _=>?_) (fun _=>?_)|refine brK_ndec (fun _=>?_) (fun _=>?_)|refine brK_not (fun _=>?_) (fun _=>?_)|refine brK_in (fun _=>?_) (fun _=>?_)|refine And.intro (by first|exact rfl|exact ⟨_,rfl,rfl⟩|exact ⟨rfl,rfl,rfl⟩|exact of_decide_eq_true rfl|exact trivial|assumption|omega|(show (_ ≤ _ ∧ _ ≤ _); omega)|(simp; omega)|exact ⟨by first|omega|(simp; omega),_,rfl,rfl⟩) ?_|refine Quo.l (And.intro (by first|exact rfl|assumption|omega|(simp; omega)) ?_)|refine Quo.r (And.intro (by omega) ?_)|refine Both.mk ?_ ?_|refine Exists.intro _ (And.intro rfl ?_)|refine opt_use (by assumption) ?_|refine prow_use (by assumption) ?_|refine vrow_use (by assumption) ?_|refine fun _=>?_))|exact rfl)
    · omega
    · exact h
  obtain ⟨k, w, v, q1, q2, q3, q4, q5, q6, q7⟩ := slotsP_at hil
  have q8 : (slotsP c g L)[((i : Nat) : Int).toNat]? = some (v.r, v.a) := q6
  have hgv := slots_gV q1
  have hfd := find_at (gV_sorted hgv) q3
  have hkg : k < g.length := (List.getElem?_eq_some_iff.1 q3).1
  have hgm : (g.map VxD.row).length = g.length := by simp
  have q10 : g[((k : Nat) : Int).toNat]? = some v := q3
  have hcl : c.length < 2000000 := by omega
  have hgl : g.length < 2000000 := by omega
  have hvr := (vx_out (gV_cell hgv q3).1).1
  have hpl := hgs v (List.mem_of_getElem? q3)
  repeat' (first|((conv=>whnf); (first|refine draw_plan (id := 11) [] [17] (.take 0 (.take 1 (.take 2 (.take 3 (.take 4 (.take 5 (.take 6 (.take 7 (.take 8 (.take 9 (.take 10 (.take 11 (.take 12 (.two 13 (.take 14 (.take 15 (.run 16 (.run 17 .done)))) 16 (.run 13 (.take 14 (.take 15 (.run 17 .done)))))))))))))))))) (by kernel_rfl) (by kernel_rfl) ?_|refine draw_plan (id := 15) [] [10] (.take 0 (.take 1 (.take 2 (.take 3 (.take 4 (.take 5 (.take 6 (.take 7 (.take 8 (.run 9 (.run 10 .done))))))))))) (by kernel_rfl) (by kernel_rfl) ?_|refine draw_plan (id := 16) [] [] (.take 0 (.take 1 (.run 2 (.take 3 (.take 4 (.take 5 (.take 6 (.take 7 (.run 8 (.take 9 (.take 10 .done))))))))))) (by kernel_rfl) (by kernel_rfl) ?_|refine Exists.intro g (Exists.intro k (And.intro rfl (And.intro hgv (And.intro hfd (And.intro hcl (And.intro hgl (And.intro hgs ?_)))))))|refine brK_dec (fun _=>?_) (fun _=>?_)|refine brK_ndec (fun _=>?_) (fun _=>?_)|refine brK_not (fun _=>?_) (fun _=>?_)|refine brK_in (fun _=>?_) (fun _=>?_)|refine And.intro (by first|exact rfl|exact ⟨_,rfl,rfl⟩|exact ⟨rfl,rfl,rfl⟩|exact of_decide_eq_true rfl|exact trivial|assumption|omega|(show (_ ≤ _ ∧ _ ≤ _); omega)|(simp; omega)|exact ⟨by first|omega|(simp; omega),_,rfl,rfl⟩) ?_|refine Quo.l (And.intro (by first|exact rfl|assumption|omega|(simp; omega)) ?_)|refine Quo.r (And.intro (by omega) ?_)|refine Both.mk ?_ ?_|refine Exists.intro _ (And.intro rfl ?_)|refine opt_use (by assumption) ?_|refine prow_use (by assumption) ?_|refine vrow_use (by assumption) ?_|refine fun _=>?_))|exact rfl)
  rotate_right
  · omega
  all_goals
    refine loop_in (ι := Nat) (fun m => mkS 85 [(3, .ints c), (4, .sl 4 (g.map VxD.row)), (5, .ints L), (6, .own 0), (8, I i), (9, .ptr 1 0), (10, I m)] [.arr 2 ((slotsP c g L).map pR), .cells v.row] Fs)
      (fun m => m ≤ v.p.length) (fun m => v.p.length - m) 0 [0, 1] (Nat.zero_le _) ?_ ?_
    · repeat' (first|((conv=>whnf); (first|refine brK_dec (fun _=>?_) (fun _=>?_)|refine brK_ndec (fun _=>?_) (fun _=>?_)|refine brK_not (fun _=>?_) (fun _=>?_)|refine brK_in (fun _=>?_) (fun _=>?_)|refine And.intro (by first|exact rfl|exact ⟨_,rfl,rfl⟩|exact ⟨rfl,rfl,rfl⟩|exact of_decide_eq_true rfl|exact trivial|assumption|omega|(show (_ ≤ _ ∧ _ ≤ _); omega)|(simp; omega)|exact ⟨by first|omega|(simp; omega),_,rfl,rfl⟩) ?_|refine Quo.l (And.intro (by first|exact rfl|assumption|omega|(simp; omega)) ?_)|refine Quo.r (And.intro (by omega) ?_)|refine Both.mk ?_ ?_|refine Exists.intro _ (And.intro rfl ?_)|refine opt_use (by assumption) ?_|refine prow_use (by assumption) ?_|refine vrow_use (by assumption) ?_|refine fun _=>?_))|exact rfl)
    intro m hm
    have htk : (List.take ((((i : Nat) : Int).toNat) - 0) (List.drop 0 ((slotsP c g L).map pR))) = ((slotsP c g L).take i).map pR := by simp
    have htl : ((slotsP c g L).take i).length < 2000000000 := by rw [List.length_take]; omega
    rcases Nat.lt_or_ge m v.p.length with hml | hml
    · obtain ⟨x, hx⟩ : ∃ x, v.p[((m : Nat) : Int).toNat]? = some x := ⟨_, List.getElem?_eq_getElem hml⟩
      have hcs := causal_at q1 q2 q3 (List.mem_of_getElem? hx)
      repeat' (first|((conv=>whnf); (first|refine draw_plan (id := 11) [] [17] (.take 0 (.take 1 (.take 2 (.take 3 (.take 4 (.take 5 (.take 6 (.take 7 (.take 8 (.take 9 (.take 10 (.take 11 (.take 12 (.two 13 (.take 14 (.take 15 (.run 16 (.run 17 .done)))) 16 (.run 13 (.take 14 (.take 15 (.run 17 .done)))))))))))))))))) (by kernel_rfl) (by kernel_rfl) ?_|refine draw_plan (id := 15) [] [10] (.take 0 (.take 1 (.take 2 (.take 3 (.take 4 (.take 5 (.take 6 (.take 7 (.take 8 (.run 9 (.run 10 .done))))))))))) (by kernel_rfl) (by kernel_rfl) ?_|refine draw_plan (id := 16) [] [] (.take 0 (.take 1 (.run 2 (.take 3 (.take 4 (.take 5 (.take 6 (.take 7 (.run 8 (.take 9 (.take 10 .done))))))))))) (by kernel_rfl) (by kernel_rfl) ?_|refine Exists.intro (slotsP c g L) (And.intro rfl (And.intro hs2 ?_))|refine Exists.intro ((slotsP c g L).take i) (And.intro htk (And.intro htl ?_))|refine brK_dec (fun _=>?_) (fun _=>?_)|refine brK_ndec (fun _=>?_) (fun _=>?_)|refine brK_not (fun _=>?_) (fun _=>?_)|refine brK_in (fun _=>?_) (fun _=>?_)|refine And.intro (by first|exact rfl|exact ⟨_,rfl,rfl⟩|exact ⟨rfl,rfl,rfl⟩|exact of_decide_eq_true rfl|exact trivial|assumption|omega|(show (_ ≤ _ ∧ _ ≤ _); omega)|(simp; omega)|exact ⟨by first|omega|(simp; omega),_,rfl,rfl⟩) ?_|refine Quo.l (And.intro (by first|exact rfl|assumption|omega|(simp; omega)) ?_)|refine Quo.r (And.intro (by omega) ?_)|refine Both.mk ?_ ?_|refine Exists.intro _ (And.intro rfl ?_)|refine opt_use (by assumption) ?_|refine prow_use (by assumption) ?_|refine vrow_use (by assumption) ?_|refine fun _=>?_))|exact rfl)
      · rename_i _ h3 h4
        exact absurd (hcs h3) h4
      · refine ⟨m + 1, [0, 1], by omega, by omega, ?_⟩
        repeat' (first|((conv=>whnf); (first|refine brK_dec (fun _=>?_) (fun _=>?_)|refine brK_ndec (fun _=>?_) (fun _=>?_)|refine brK_not (fun _=>?_) (fun _=>?_)|refine brK_in (fun _=>?_) (fun _=>?_)|refine And.intro (by first|exact rfl|exact ⟨_,rfl,rfl⟩|exact ⟨rfl,rfl,rfl⟩|exact of_decide_eq_true rfl|exact trivial|assumption|omega|(show (_ ≤ _ ∧ _ ≤ _); omega)|(simp; omega)|exact ⟨by first|omega|(simp; omega),_,rfl,rfl⟩) ?_|refine Quo.l (And.intro (by first|exact rfl|assumption|omega|(simp; omega)) ?_)|refine Quo.r (And.intro (by omega) ?_)|refine Both.mk ?_ ?_|refine Exists.intro _ (And.intro rfl ?_)|refine opt_use (by assumption) ?_|refine prow_use (by assumption) ?_|refine vrow_use (by assumption) ?_|refine fun _=>?_))|exact rfl)
      · refine ⟨m + 1, [0, 1], by omega, by omega, ?_⟩
        repeat' (first|((conv=>whnf); (first|refine brK_dec (fun _=>?_) (fun _=>?_)|refine brK_ndec (fun _=>?_) (fun _=>?_)|refine brK_not (fun _=>?_) (fun _=>?_)|refine brK_in (fun _=>?_) (fun _=>?_)|refine And.intro (by first|exact rfl|exact ⟨_,rfl,rfl⟩|exact ⟨rfl,rfl,rfl⟩|exact of_decide_eq_true rfl|exact trivial|assumption|omega|(show (_ ≤ _ ∧ _ ≤ _); omega)|(simp; omega)|exact ⟨by first|omega|(simp; omega),_,rfl,rfl⟩) ?_|refine Quo.l (And.intro (by first|exact rfl|assumption|omega|(simp; omega)) ?_)|refine Quo.r (And.intro (by omega) ?_)|refine Both.mk ?_ ?_|refine Exists.intro _ (And.intro rfl ?_)|refine opt_use (by assumption) ?_|refine prow_use (by assumption) ?_|refine vrow_use (by assumption) ?_|refine fun _=>?_))|exact rfl)
      · omega
    · repeat' (first|((conv=>whnf); (first|refine brK_dec (fun _=>?_) (fun _=>?_)|refine brK_ndec (fun _=>?_) (fun _=>?_)|refine brK_not (fun _=>?_) (fun _=>?_)|refine brK_in (fun _=>?_) (fun _=>?_)|refine And.intro (by first|exact rfl|exact ⟨_,rfl,rfl⟩|exact ⟨rfl,rfl,rfl⟩|exact of_decide_eq_true rfl|exact trivial|assumption|omega|(show (_ ≤ _ ∧ _ ≤ _); omega)|(simp; omega)|exact ⟨by first|omega|(simp; omega),_,rfl,rfl⟩) ?_|refine Quo.l (And.intro (by first|exact rfl|assumption|omega|(simp; omega)) ?_)|refine Quo.r (And.intro (by omega) ?_)|refine Both.mk ?_ ?_|refine Exists.intro _ (And.intro rfl ?_)|refine opt_use (by assumption) ?_|refine prow_use (by assumption) ?_|refine vrow_use (by assumption) ?_|refine fun _=>?_))|exact rfl)
      rotate_right
      · refine ⟨i + 1, [0], by omega, by omega, ?_⟩
        repeat' (first|((conv=>whnf); (first|refine brK_dec (fun _=>?_) (fun _=>?_)|refine brK_ndec (fun _=>?_) (fun _=>?_)|refine brK_not (fun _=>?_) (fun _=>?_)|refine brK_in (fun _=>?_) (fun _=>?_)|refine And.intro (by first|exact rfl|exact ⟨_,rfl,rfl⟩|exact ⟨rfl,rfl,rfl⟩|exact of_decide_eq_true rfl|exact trivial|assumption|omega|(show (_ ≤ _ ∧ _ ≤ _); omega)|(simp; omega)|exact ⟨by first|omega|(simp; omega),_,rfl,rfl⟩) ?_|refine Quo.l (And.intro (by first|exact rfl|assumption|omega|(simp; omega)) ?_)|refine Quo.r (And.intro (by omega) ?_)|refine Both.mk ?_ ?_|refine Exists.intro _ (And.intro rfl ?_)|refine opt_use (by assumption) ?_|refine prow_use (by assumption) ?_|refine vrow_use (by assumption) ?_|refine fun _=>?_))|exact rfl)
      all_goals omega
end Vw
theorem k_laws_FnOrderCausal : Keeps' Tryz.prog 8 c_ordLaw := Vw.k_laws_FnOrderCausal
end Go.Proofs.YtkabnbjlglippaaGreatDoor
