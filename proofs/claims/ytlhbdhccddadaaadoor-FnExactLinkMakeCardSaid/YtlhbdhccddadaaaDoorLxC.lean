/-
The laws' own marks on epochs, certificates and links.
No conditions.
-/
import Derived.Test.YtlhbdhccddadaaaDoorLxA
import Derived.Test.YtlhbdhccddadaaaDoorMkB
namespace Go.Proofs.YtlhbdhccddadaaaDoor
open Go Go.Vc
set_option maxHeartbeats 2000000
set_option maxRecDepth 10000
def c_laws_markCert : Con := ⟨0, 3, false, fun xs hs _ K => match xs, hs with
  | [.agg [.val (.int .i64 _), .own 0, .val (.int .i64 _)], .val (.int .i64 z)], [.iarr s] => 0 ≤ z ∧ z ≤ 90000000 ∧ s.length < 2000000 ∧ K (I (z + s.length)) [.iarr (mkL z s.length)] []
  | _, _ => False⟩
theorem k_laws_markCert : Keeps' Tryd.prog 40 c_laws_markCert := by
  refine keeps_of_vc mix TyT_ok (cok_stay (cok_cons k_laws_markIntS Tryd.func15 rfl rfl cok_nil)) Tryd.func40 rfl rfl rfl ?_
  intro aargs hs Fs K h
  simp only [c_laws_markCert] at h
  split at h
  case h_2 => exact h.elim
  rename_i d m z s
  obtain ⟨h0, h1, h2, h⟩ := h
  repeat' (first
    | ((conv => whnf); (first
      | refine brK_dec (fun _ => ?_) (fun _ => ?_)
      | refine brK_ndec (fun _ => ?_) (fun _ => ?_)
      | refine brK_not (fun _ => ?_) (fun _ => ?_)
      | refine brK_in (fun _ => ?_) (fun _ => ?_)
      | refine And.intro (by first | exact rfl | exact (mkL_len _ _) | exact ⟨_, rfl, rfl⟩ | exact ⟨rfl, rfl, rfl⟩ | exact of_decide_eq_true rfl | exact trivial | assumption | omega | (show (_ ≤ _ ∧ _ ≤ _); omega) | (simp; omega) | exact ⟨by first | omega | (simp; omega), _, rfl, rfl⟩) ?_
      | refine Both.mk ?_ ?_
      | refine Exists.intro _ (And.intro rfl ?_)
      | refine fun _ => ?_))
    | exact rfl)
  exact h
def c_laws_markCertN : Con := ⟨0, 3, false, fun xs hs _ K => match xs, hs with
  | [.agg [.val (.int .i64 _), .val (.slice none 0 0), .val (.int .i64 _)], .val (.int .i64 z)], [] => 0 ≤ z ∧ z ≤ 90000000 ∧ K (I z) [] []
  | _, _ => False⟩
theorem k_laws_markCert_n : Keeps' Tryd.prog 40 c_laws_markCertN := by
  refine keeps_of_vc mix TyT_ok (cok_stay (cok_cons k_laws_markIntS_n Tryd.func15 rfl rfl cok_nil)) Tryd.func40 rfl rfl rfl ?_
  intro aargs hs Fs K h
  simp only [c_laws_markCertN] at h
  split at h
  case h_2 => exact h.elim
  rename_i d m z
  obtain ⟨h0, h1, h⟩ := h
  repeat' (first
    | ((conv => whnf); (first
      | refine brK_dec (fun _ => ?_) (fun _ => ?_)
      | refine brK_ndec (fun _ => ?_) (fun _ => ?_)
      | refine brK_not (fun _ => ?_) (fun _ => ?_)
      | refine brK_in (fun _ => ?_) (fun _ => ?_)
      | refine And.intro (by first | exact rfl | exact (mkL_len _ _) | exact ⟨_, rfl, rfl⟩ | exact ⟨rfl, rfl, rfl⟩ | exact of_decide_eq_true rfl | exact trivial | assumption | omega | (show (_ ≤ _ ∧ _ ≤ _); omega) | (simp; omega) | exact ⟨by first | omega | (simp; omega), _, rfl, rfl⟩) ?_
      | refine Both.mk ?_ ?_
      | refine Exists.intro _ (And.intro rfl ?_)
      | refine fun _ => ?_))
    | exact rfl)
  exact h
def c_laws_markLink : Con := ⟨0, 3, false, fun xs hs _ K => match xs, hs with
  | [.agg [.val (.int .i64 _), .own 0, .own 1, .val (.int .i64 _), .val (.int .i64 _), .own 2, .val (.int .i64 _)], .val (.int .i64 z)], [.iarr c, .iarr k, .iarr s] => 0 ≤ z ∧ z ≤ 50000000 ∧ c.length < 2000000 ∧ k.length < 2000000 ∧ s.length < 2000000 ∧
    K (I (z + c.length + k.length + s.length)) [.iarr (mkL z c.length), .iarr (mkL (z + c.length) k.length), .iarr (mkL (z + c.length + k.length) s.length)] []
  | _, _ => False⟩
theorem k_laws_markLink : Keeps' Tryd.prog 16 c_laws_markLink := by
  refine keeps_of_vc mix TyT_ok (cok_stay (cok_cons k_laws_markEpoch Tryd.func14 rfl rfl (cok_cons k_laws_markCert Tryd.func40 rfl rfl cok_nil))) Tryd.func16 rfl rfl rfl ?_
  intro aargs hs Fs K h
  simp only [c_laws_markLink] at h
  split at h
  case h_2 => exact h.elim
  rename_i n r d m z c k s
  obtain ⟨h0, h1, h2, h3, h4, h⟩ := h
  repeat' (first
    | ((conv => whnf); (first
      | refine brK_dec (fun _ => ?_) (fun _ => ?_)
      | refine brK_ndec (fun _ => ?_) (fun _ => ?_)
      | refine brK_not (fun _ => ?_) (fun _ => ?_)
      | refine brK_in (fun _ => ?_) (fun _ => ?_)
      | refine And.intro (by first | exact rfl | exact (mkL_len _ _) | exact ⟨_, rfl, rfl⟩ | exact ⟨rfl, rfl, rfl⟩ | exact of_decide_eq_true rfl | exact trivial | assumption | omega | (show (_ ≤ _ ∧ _ ≤ _); omega) | (simp; omega) | exact ⟨by first | omega | (simp; omega), _, rfl, rfl⟩) ?_
      | refine Both.mk ?_ ?_
      | refine Exists.intro _ (And.intro rfl ?_)
      | refine fun _ => ?_))
    | exact rfl)
  exact h
def c_laws_markLinkN : Con := ⟨0, 3, false, fun xs hs _ K => match xs, hs with
  | [.agg [.val (.int .i64 _), .val (.slice none 0 0), .val (.slice none 0 0), .val (.int .i64 _), .val (.int .i64 _), .val (.slice none 0 0), .val (.int .i64 _)], .val (.int .i64 z)], [] => 0 ≤ z ∧ z ≤ 50000000 ∧ K (I z) [] []
  | _, _ => False⟩
theorem k_laws_markLink_n : Keeps' Tryd.prog 16 c_laws_markLinkN := by
  refine keeps_of_vc mix TyT_ok (cok_stay (cok_cons k_laws_markEpoch_n Tryd.func14 rfl rfl (cok_cons k_laws_markCert_n Tryd.func40 rfl rfl cok_nil))) Tryd.func16 rfl rfl rfl ?_
  intro aargs hs Fs K h
  simp only [c_laws_markLinkN] at h
  split at h
  case h_2 => exact h.elim
  rename_i n r d m z
  obtain ⟨h0, h1, h⟩ := h
  repeat' (first
    | ((conv => whnf); (first
      | refine brK_dec (fun _ => ?_) (fun _ => ?_)
      | refine brK_ndec (fun _ => ?_) (fun _ => ?_)
      | refine brK_not (fun _ => ?_) (fun _ => ?_)
      | refine brK_in (fun _ => ?_) (fun _ => ?_)
      | refine And.intro (by first | exact rfl | exact (mkL_len _ _) | exact ⟨_, rfl, rfl⟩ | exact ⟨rfl, rfl, rfl⟩ | exact of_decide_eq_true rfl | exact trivial | assumption | omega | (show (_ ≤ _ ∧ _ ≤ _); omega) | (simp; omega) | exact ⟨by first | omega | (simp; omega), _, rfl, rfl⟩) ?_
      | refine Both.mk ?_ ?_
      | refine Exists.intro _ (And.intro rfl ?_)
      | refine fun _ => ?_))
    | exact rfl)
  exact h
def c_laws_heldCert : Con := ⟨0, 0, false, fun xs hs _ K => match xs with
  | [.agg [.val (.int .i64 _), .ints s, .val (.int .i64 _)], .val (.int .i64 z)] => hs = [] ∧ 0 ≤ z ∧ z ≤ 90000000 ∧ s.length < 2000000 ∧ s = mkL z s.length ∧ K (I (z + s.length)) [] []
  | _ => False⟩
theorem k_laws_heldCert : Keeps' Tryd.prog 41 c_laws_heldCert := by
  refine keeps_of_vc mix TyT_ok (cok_cons k_laws_heldIntS Tryd.func47 rfl rfl cok_nil) Tryd.func41 rfl rfl rfl ?_
  intro aargs hs Fs K h
  simp only [c_laws_heldCert] at h
  split at h
  case h_2 => exact h.elim
  rename_i d s m z
  obtain ⟨rfl, h0, h1, h2, h3, h⟩ := h
  repeat' (first
    | ((conv => whnf); (first
      | refine brK_dec (fun _ => ?_) (fun _ => ?_)
      | refine brK_ndec (fun _ => ?_) (fun _ => ?_)
      | refine brK_not (fun _ => ?_) (fun _ => ?_)
      | refine brK_in (fun _ => ?_) (fun _ => ?_)
      | refine And.intro (by first | exact rfl | exact ⟨_, rfl, rfl⟩ | exact ⟨rfl, rfl, rfl⟩ | exact of_decide_eq_true rfl | exact trivial | assumption | omega | (show (_ ≤ _ ∧ _ ≤ _); omega) | (simp; omega) | exact ⟨by first | omega | (simp; omega), _, rfl, rfl⟩) ?_
      | refine Both.mk ?_ ?_
      | refine Exists.intro _ (And.intro rfl ?_)
      | refine fun _ => ?_))
    | exact rfl)
  all_goals first
    | exact h
    | (exfalso; omega)
def c_laws_heldLink : Con := ⟨0, 0, false, fun xs hs _ K => match xs with
  | [.agg [.val (.int .i64 _), .ints c, .ints k, .val (.int .i64 _), .val (.int .i64 _), .ints s, .val (.int .i64 _)], .val (.int .i64 z)] => hs = [] ∧ 0 ≤ z ∧ z ≤ 50000000 ∧ c.length < 2000000 ∧ k.length < 2000000 ∧ s.length < 2000000 ∧
    c = mkL z c.length ∧ k = mkL (z + c.length) k.length ∧ s = mkL (z + c.length + k.length) s.length ∧ K (I (z + c.length + k.length + s.length)) [] []
  | _ => False⟩
theorem k_laws_heldLink : Keeps' Tryd.prog 17 c_laws_heldLink := by
  refine keeps_of_vc mix TyT_ok (cok_cons k_laws_heldEpoch Tryd.func24 rfl rfl (cok_cons k_laws_heldCert Tryd.func41 rfl rfl cok_nil)) Tryd.func17 rfl rfl rfl ?_
  intro aargs hs Fs K h
  simp only [c_laws_heldLink] at h
  split at h
  case h_2 => exact h.elim
  rename_i n c k r d s m z
  obtain ⟨rfl, h0, h1, h2, h3, h4, h5, h6, h7, h⟩ := h
  repeat' (first
    | ((conv => whnf); (first
      | refine brK_dec (fun _ => ?_) (fun _ => ?_)
      | refine brK_ndec (fun _ => ?_) (fun _ => ?_)
      | refine brK_not (fun _ => ?_) (fun _ => ?_)
      | refine brK_in (fun _ => ?_) (fun _ => ?_)
      | refine And.intro (by first | exact rfl | exact ⟨_, rfl, rfl⟩ | exact ⟨rfl, rfl, rfl⟩ | exact of_decide_eq_true rfl | exact trivial | assumption | omega | (show (_ ≤ _ ∧ _ ≤ _); omega) | (simp; omega) | exact ⟨by first | omega | (simp; omega), _, rfl, rfl⟩) ?_
      | refine Both.mk ?_ ?_
      | refine Exists.intro _ (And.intro rfl ?_)
      | refine fun _ => ?_))
    | exact rfl)
  all_goals first
    | exact h
    | (exfalso; omega)
end Go.Proofs.YtlhbdhccddadaaaDoor
