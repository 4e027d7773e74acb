/-
The drawn chains, and the law that an empty chain ends with the first epoch.
No conditions.
-/
import Derived.Test.YtpbpabhkkfgheaaDoorDrK
import Derived.Test.YtpbpabhkkfgheaaDoorLxB
namespace Go.Proofs.YtpbpabhkkfgheaaDoor
open Go Go.Vc
set_option maxHeartbeats 4000000
set_option maxRecDepth 10000
def c_spec_DrawChainCheck : Con := ⟨1, 0, true, fun xs hs _ K => match xs with
  | [.bytes b] => hs = [] ∧ b.length ≤ 1048576 ∧ ∀ (e : EpD) (ls : List LkD), e.small → (∀ x ∈ ls, x.small) → ls.length ≤ 5 → K (.tup [.agg [I e.n, .ints e.c, .ints e.k, I e.r], .own 0]) [.arr 7 (ls.map LkD.row)] []
  | _ => False⟩
theorem k_spec_DrawChainCheck : Keeps' Tryd.prog 16 c_spec_DrawChainCheck := by
  refine keeps_of_vc mix TyT_ok (cok_cons k_spec_l6Open Tryd.func32 rfl rfl (cok_cons k_spec_l92Chain Tryd.func33 rfl rfl (cok_cons k_spec_l6Rd_pick Tryd.func34 rfl rfl cok_nil))) Tryd.func16 rfl rfl rfl ?_
  intro aargs hs Fs K h
  simp only [c_spec_DrawChainCheck] at h
  split at h
  case h_2 => exact h.elim
  rename_i b
  obtain ⟨rfl, hb, h⟩ := h
  repeat' (first
    | ((conv => whnf); (first
      | refine brK_dec (fun _ => ?_) (fun _ => ?_)
      | refine brK_ndec (fun _ => ?_) (fun _ => ?_)
      | refine brK_not (fun _ => ?_) (fun _ => ?_)
      | refine brK_in (fun _ => ?_) (fun _ => ?_)
      | refine And.intro (by first | exact rfl | exact ⟨_, rfl, rfl⟩ | exact ⟨rfl, rfl, rfl⟩ | exact of_decide_eq_true rfl | exact trivial | assumption | omega | (show (_ ≤ _ ∧ _ ≤ _); omega) | (simp; omega) | exact ⟨by first | omega | (simp; omega), _, rfl, rfl⟩) ?_
      | refine Both.mk ?_ ?_
      | refine Exists.intro _ (And.intro rfl ?_)
      | refine fun _ => ?_))
    | exact rfl)
  rename_i b1 hb1 z z0 z1 o e ls p1 p2 p3 p4 p5 p6 p7
  exact h e ls ⟨by omega, by omega⟩ (fun x hx => LkD.fits_small (p6 x hx)) p7
theorem last_small {e : EpD} {ls : List LkD} (he : e.small) (h : ∀ x ∈ ls, x.small) : (lastE e ls).c.length < 2000000 ∧ (lastE e ls).k.length < 2000000 := lastE_small he h
def c_laws_FnChainEmpty : Con := ⟨0, 0, false, fun xs hs Fs K => match xs with
  | [.bytes b] => hs = [] ∧ hasTab Fs ∧ b.length ≤ 9223372036854775807 ∧ K (B true) [] []
  | _ => False⟩
theorem k_laws_FnChainEmpty : Keeps' Tryd.prog 5 c_laws_FnChainEmpty := by
  refine keeps_of_vc mix TyT_ok (cok_cons k_spec_DrawChainCheck Tryd.func16 rfl rfl (cok_cons k_impl_ChainCheck Tryd.func17 rfl rfl (cok_cons k_spec_ChainCheck Tryd.func18 rfl rfl (cok_cons (keeps_nil k_laws_sameEpoch) Tryd.func19 rfl rfl cok_nil)))) Tryd.func5 rfl rfl rfl ?_
  intro aargs hs Fs K h
  simp only [c_laws_FnChainEmpty] at h
  split at h
  case h_2 => exact h.elim
  rename_i b
  obtain ⟨rfl, hT, hb, h⟩ := h
  repeat' (first
    | ((conv => whnf); (first
      | refine brK_dec (fun _ => ?_) (fun _ => ?_)
      | refine brK_ndec (fun _ => ?_) (fun _ => ?_)
      | refine brK_not (fun _ => ?_) (fun _ => ?_)
      | refine brK_in (fun _ => ?_) (fun _ => ?_)
      | refine And.intro (by first | exact rfl | exact (tab_app hT) | exact ⟨_, rfl, rfl⟩ | exact ⟨rfl, rfl, rfl⟩ | exact of_decide_eq_true rfl | exact trivial | assumption | omega | (show (_ ≤ _ ∧ _ ≤ _); omega) | (simp; omega) | exact ⟨by first | omega | (simp; omega), _, rfl, rfl⟩) ?_
      | refine Both.mk ?_ ?_
      | refine Exists.intro _ (And.intro rfl ?_)
      | refine fun _ => ?_))
    | exact rfl)
  · exact h
  rename_i hb2 e ls he hls hl
  have hl1 := last_small he hls
  have hl2 := hl1.2
  have hl1 := hl1.1
  have he1 := he.1
  have he2 := he.2
  have hlen : (ls.map LkD.row).length = ls.length := by simp
  repeat' (first
    | ((conv => whnf); (first
      | refine brK_dec (fun _ => ?_) (fun _ => ?_)
      | refine brK_ndec (fun _ => ?_) (fun _ => ?_)
      | refine brK_not (fun _ => ?_) (fun _ => ?_)
      | refine brK_in (fun _ => ?_) (fun _ => ?_)
      | refine And.intro (by first | exact rfl | exact (by first | exact tab_app hT | exact hls) | exact ⟨_, rfl, rfl⟩ | exact ⟨rfl, rfl, rfl⟩ | exact of_decide_eq_true rfl | exact trivial | assumption | omega | (show (_ ≤ _ ∧ _ ≤ _); omega) | (simp; omega) | exact ⟨by first | omega | (simp; omega), _, rfl, rfl⟩) ?_
      | refine Both.mk ?_ ?_
      | refine Exists.intro _ (And.intro rfl ?_)
      | refine fun _ => ?_))
    | exact rfl)
  all_goals first
    | exact h
    | (exfalso; simp_all; done)
    | skip
  rename_i q1 q2 q3
  have hok : e.ok = true := by
    have q1 : accV e ls = true := q1
    simp only [accV, Bool.and_eq_true] at q1
    exact q1.1
  refine ⟨[], rfl, ?_⟩
  repeat' (first
    | ((conv => whnf); (first
      | refine brK_dec (fun _ => ?_) (fun _ => ?_)
      | refine brK_ndec (fun _ => ?_) (fun _ => ?_)
      | refine brK_not (fun _ => ?_) (fun _ => ?_)
      | refine brK_in (fun _ => ?_) (fun _ => ?_)
      | refine And.intro (by first | exact rfl | exact (by first | exact tab_app hT | (intro x hx; cases hx)) | exact ⟨_, rfl, rfl⟩ | exact ⟨rfl, rfl, rfl⟩ | exact of_decide_eq_true rfl | exact trivial | assumption | omega | (show (_ ≤ _ ∧ _ ≤ _); omega) | (simp; omega) | exact ⟨by first | omega | (simp; omega), _, rfl, rfl⟩) ?_
      | refine Both.mk ?_ ?_
      | refine Exists.intro _ (And.intro rfl ?_)
      | refine fun _ => ?_))
    | exact rfl)
  · rename_i q4
    rw [decide_eq_true ⟨rfl, rfl, rfl, rfl⟩]
    exact h
  · rename_i q4
    have q4 : accV e [] = false := q4
    rw [accV, hok] at q4
    cases q4
end Go.Proofs.YtpbpabhkkfgheaaDoor
