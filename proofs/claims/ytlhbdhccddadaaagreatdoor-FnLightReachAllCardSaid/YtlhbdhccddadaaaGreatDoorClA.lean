/-
The drawn chains, and the law that an empty chain ends with the first epoch.
No conditions.
-/
import Derived.Test.YtlhbdhccddadaaaGreatDoorDrK
import Derived.Test.YtlhbdhccddadaaaGreatDoorLxB
namespace Go.Proofs.YtlhbdhccddadaaaGreatDoor
open Go Go.Vc
set_option maxHeartbeats 4000000
set_option maxRecDepth 10000
def c_spec_DrawChainCheck : Con := ⟨1, 0, true, fun xs hs _ K => match xs with
  | [.bytes b] => hs = [] ∧ b.length ≤ 1048576 ∧ ∀ (e : EpD) (ls : List LkD), e.small → (∀ x ∈ ls, x.small) → ls.length ≤ 5 → K (.tup [.agg [I e.n, .ints e.c, .ints e.k, I e.r], .own 0]) [.arr 7 (ls.map LkD.row)] []
  | _ => False⟩
theorem k_spec_DrawChainCheck : Keeps' Tryz.prog 22 c_spec_DrawChainCheck := by
  refine keeps_of_vc mix TyT_ok (cok_cons k_spec_l6Open Tryz.func30 rfl rfl (cok_cons k_spec_l92Chain Tryz.func48 rfl rfl (cok_cons k_spec_l6Rd_pick Tryz.func33 rfl rfl cok_nil))) Tryz.func22 rfl rfl rfl ?_
  intro aargs hs Fs K h
  simp only [c_spec_DrawChainCheck] at h
  split at h
  case h_2 => exact h.elim
  rename_i b
  obtain ⟨rfl, hb, h⟩ := h
  repeat' (first
    | ((conv => whnf); (first
      | refine brK_dec (fun _ => ?_) (fun _ => ?_)
      | refine brK_ndec (fun _ => ?_) (fun _ => ?_)
      | refine brK_not (fun _ => ?_) (fun _ => ?_)
      | refine brK_in (fun _ => ?_) (fun _ => ?_)
      | refine And.intro (by first | exact rfl | exact ⟨_, rfl, rfl⟩ | exact ⟨rfl, rfl, rfl⟩ | exact of_decide_eq_true rfl | exact trivial | assumption | omega | (show (_ ≤ _ ∧ _ ≤ _); omega) | (simp; omega) | exact ⟨by first | omega | (simp; omega), _, rfl, rfl⟩) ?_
      | refine Both.mk ?_ ?_
      | refine Exists.intro _ (And.intro rfl ?_)
      | refine fun _ => ?_))
    | exact rfl)
  rename_i b1 hb1 z z0 z1 o e ls p1 p2 p3 p4 p5 p6 p7
  exact h e ls ⟨by omega, by omega⟩ (fun x hx => LkD.fits_small (p6 x hx)) p7
theorem last_small {e : EpD} {ls : List LkD} (he : e.small) (h : ∀ x ∈ ls, x.small) : (lastE e ls).c.length < 2000000 ∧ (lastE e ls).k.length < 2000000 := lastE_small he h
def c_laws_FnChainEmpty : Con := ⟨0, 0, false, fun xs hs Fs K => match xs with
  | [.bytes b] => hs = [] ∧ hasTab Fs ∧ b.length ≤ 9223372036854775807 ∧ K (B true) [] []
  | _ => False⟩
end Go.Proofs.YtlhbdhccddadaaaGreatDoor
