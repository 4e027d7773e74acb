/-
The laws' own marks on epochs.
No conditions.
-/
import Derived.Test.YtdljacpmoaeepaaDoorZvX
import Derived.Test.YtdljacpmoaeepaaDoorVcMH
namespace Go.Proofs.YtdljacpmoaeepaaDoor
open Go Go.Vc
set_option maxHeartbeats 2000000
set_option maxRecDepth 10000
def c_laws_markEpoch : Con := ⟨0, 3, false, fun xs hs _ K => match xs, hs with
  | [.agg [.val (.int .i64 _), .own 0, .own 1, .val (.int .i64 _)], .val (.int .i64 z)], [.iarr c, .iarr k] => 0 ≤ z ∧ z ≤ 80000000 ∧ c.length < 2000000 ∧ k.length < 2000000 ∧
    K (I (z + c.length + k.length)) [.iarr (mkL z c.length), .iarr (mkL (z + c.length) k.length)] []
  | _, _ => False⟩
theorem k_laws_markEpoch : Keeps' Tryd.prog 12 c_laws_markEpoch := by
  refine keeps_of_vc mix TyT_ok (cok_stay (cok_cons k_laws_markIntS Tryd.func27 rfl rfl cok_nil)) Tryd.func12 rfl rfl rfl ?_
  intro aargs hs Fs K h
  simp only [c_laws_markEpoch] at h
  split at h
  case h_2 => exact h.elim
  rename_i n r z c k
  obtain ⟨h0, h1, h2, h3, h⟩ := h
  repeat' (first|((conv=>whnf); (first|refine brK_dec (fun _=>?_) (fun _=>?_)|refine brK_ndec (fun _=>?_) (fun _=>?_)|refine brK_not (fun _=>?_) (fun _=>?_)|refine brK_in (fun _=>?_) (fun _=>?_)|refine And.intro (by first|exact rfl|exact (mkL_len _ _)|exact ⟨_,rfl,rfl⟩|exact ⟨rfl,rfl,rfl⟩|exact of_decide_eq_true rfl|exact trivial|assumption|omega|(show (_ ≤ _ ∧ _ ≤ _); omega)|(simp; omega)|exact ⟨by first|omega|(simp; omega),_,rfl,rfl⟩) ?_|refine Quo.l (And.intro (by first|exact rfl|exact (mkL_len _ _)|assumption|omega|(simp; omega)) ?_)|refine Quo.r (And.intro (by omega) ?_)|refine Both.mk ?_ ?_|refine Exists.intro _ (And.intro rfl ?_)|refine fun _=>?_))|exact rfl)
  exact h
def c_laws_markEpochN : Con := ⟨0, 3, false, fun xs hs _ K => match xs, hs with
  | [.agg [.val (.int .i64 _), .val (.slice none 0 0), .val (.slice none 0 0), .val (.int .i64 _)], .val (.int .i64 z)], [] => 0 ≤ z ∧ z ≤ 80000000 ∧ K (I z) [] []
  | _, _ => False⟩
theorem k_laws_markEpoch_n : Keeps' Tryd.prog 12 c_laws_markEpochN := by
  refine keeps_of_vc mix TyT_ok (cok_stay (cok_cons k_laws_markIntS_n Tryd.func27 rfl rfl cok_nil)) Tryd.func12 rfl rfl rfl ?_
  intro aargs hs Fs K h
  simp only [c_laws_markEpochN] at h
  split at h
  case h_2 => exact h.elim
  rename_i n r z
  obtain ⟨h0, h1, h⟩ := h
  repeat' (first|((conv=>whnf); (first|refine brK_dec (fun _=>?_) (fun _=>?_)|refine brK_ndec (fun _=>?_) (fun _=>?_)|refine brK_not (fun _=>?_) (fun _=>?_)|refine brK_in (fun _=>?_) (fun _=>?_)|refine And.intro (by first|exact rfl|exact (mkL_len _ _)|exact ⟨_,rfl,rfl⟩|exact ⟨rfl,rfl,rfl⟩|exact of_decide_eq_true rfl|exact trivial|assumption|omega|(show (_ ≤ _ ∧ _ ≤ _); omega)|(simp; omega)|exact ⟨by first|omega|(simp; omega),_,rfl,rfl⟩) ?_|refine Quo.l (And.intro (by first|exact rfl|exact (mkL_len _ _)|assumption|omega|(simp; omega)) ?_)|refine Quo.r (And.intro (by omega) ?_)|refine Both.mk ?_ ?_|refine Exists.intro _ (And.intro rfl ?_)|refine fun _=>?_))|exact rfl)
  exact h
def c_laws_heldEpoch : Con := ⟨0, 0, false, fun xs hs _ K => match xs with
  | [.agg [.val (.int .i64 _), .ints c, .ints k, .val (.int .i64 _)], .val (.int .i64 z)] => hs = [] ∧ 0 ≤ z ∧ z ≤ 80000000 ∧ c.length < 2000000 ∧ k.length < 2000000 ∧ c = mkL z c.length ∧ k = mkL (z + c.length) k.length ∧ K (I (z + c.length + k.length)) [] []
  | _ => False⟩
theorem k_laws_heldEpoch : Keeps' Tryd.prog 14 c_laws_heldEpoch := by
  refine keeps_of_vc mix TyT_ok (cok_cons k_laws_heldIntS Tryd.func28 rfl rfl cok_nil) Tryd.func14 rfl rfl rfl ?_
  intro aargs hs Fs K h
  simp only [c_laws_heldEpoch] at h
  split at h
  case h_2 => exact h.elim
  rename_i n c k r z
  obtain ⟨rfl, h0, h1, h2, h3, h4, h5, h⟩ := h
  repeat' (first|((conv=>whnf); (first|refine brK_dec (fun _=>?_) (fun _=>?_)|refine brK_ndec (fun _=>?_) (fun _=>?_)|refine brK_not (fun _=>?_) (fun _=>?_)|refine brK_in (fun _=>?_) (fun _=>?_)|refine And.intro (by first|exact rfl|exact ⟨_,rfl,rfl⟩|exact ⟨rfl,rfl,rfl⟩|exact of_decide_eq_true rfl|exact trivial|assumption|omega|(show (_ ≤ _ ∧ _ ≤ _); omega)|(simp; omega)|exact ⟨by first|omega|(simp; omega),_,rfl,rfl⟩) ?_|refine Quo.l (And.intro (by first|exact rfl|assumption|omega|(simp; omega)) ?_)|refine Quo.r (And.intro (by omega) ?_)|refine Both.mk ?_ ?_|refine Exists.intro _ (And.intro rfl ?_)|refine fun _=>?_))|exact rfl)
  all_goals first
    | exact h
    | (exfalso; omega)
end Go.Proofs.YtdljacpmoaeepaaDoor
