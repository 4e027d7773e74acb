/-
The laws FnLightFalse and FnLightChain: a receipt turned about is rejected; what a reader accepts is the chain and the receipt.
No conditions.
-/
import Derived.Test.YtlhbdhccddadaaaGreatDoorDrN
import Derived.Test.YtlhbdhccddadaaaGreatDoorLaA
import Derived.Test.YtlhbdhccddadaaaGreatDoorLxB
namespace Go.Proofs.YtlhbdhccddadaaaGreatDoor
open Go Go.Vc
set_option maxHeartbeats 4000000
set_option maxRecDepth 10000
theorem laV_flip {e : EpD} {ls : List LkD} {s i g : Int} {d : Bool} {p : List Int} (h : laV e ls s i d g p = true) : laV e ls s i (!d) g p = false := by
  unfold laV at h ⊢
  rw [Bool.and_eq_true] at h
  rw [rcV_flip h.2, Bool.and_false]
def c_laws_FnLightFalse : Con := ⟨0, 0, false, fun xs hs Fs K => match xs with
  | [.bytes b] => hs = [] ∧ hasTab Fs ∧ b.length ≤ 9223372036854775807 ∧ K (B true) [] []
  | _ => False⟩
theorem k_laws_FnLightFalse : Keeps' Tryz.prog 4 c_laws_FnLightFalse := by
  refine keeps_of_vc mix TyT_ok (cok_cons k_spec_DrawLightAccept Tryz.func12 rfl rfl (cok_cons k_impl_LightAccept Tryz.func13 rfl rfl (cok_cons k_spec_LightAccept Tryz.func14 rfl rfl cok_nil))) Tryz.func4 rfl rfl rfl ?_
  intro aargs hs Fs K h
  simp only [c_laws_FnLightFalse] at h
  split at h
  case h_2 => exact h.elim
  rename_i b
  obtain ⟨rfl, hT, hb, h⟩ := h
  have yes : ∀ {b : Bool}, b = true → K (B b) [] [] := fun e => by rw [e]; exact h
  repeat' (first
    | ((conv => whnf); (first
      | refine brK_dec (fun _ => ?_) (fun _ => ?_)
      | refine brK_ndec (fun _ => ?_) (fun _ => ?_)
      | refine brK_not (fun _ => ?_) (fun _ => ?_)
      | refine brK_in (fun _ => ?_) (fun _ => ?_)
      | refine And.intro (by first | exact rfl | exact ⟨_, rfl, rfl⟩ | exact ⟨rfl, rfl, rfl⟩ | exact of_decide_eq_true rfl | exact trivial | assumption | omega | (show (_ ≤ _ ∧ _ ≤ _); omega) | (simp; omega) | exact ⟨by first | omega | (simp; omega), _, rfl, rfl⟩) ?_
      | refine Both.mk ?_ ?_
      | refine Exists.intro _ (And.intro rfl ?_)
      | refine fun _ => ?_))
    | exact rfl)
  · exact h
  all_goals
    rename_i hb2 e ls s i d g p he hls hl hp
    have he1 := he.1
    have he2 := he.2
    have hlen : (ls.map LkD.row).length = ls.length := by simp
  · repeat' (first
      | ((conv => whnf); (first
        | refine brK_dec (fun _ => ?_) (fun _ => ?_)
        | refine brK_ndec (fun _ => ?_) (fun _ => ?_)
        | refine brK_not (fun _ => ?_) (fun _ => ?_)
        | refine brK_in (fun _ => ?_) (fun _ => ?_)
        | refine And.intro (by first | exact rfl | exact (by first | exact tab_app hT | exact hls) | exact ⟨_, rfl, rfl⟩ | exact ⟨rfl, rfl, rfl⟩ | exact of_decide_eq_true rfl | exact trivial | assumption | omega | (show (_ ≤ _ ∧ _ ≤ _); omega) | (simp; omega) | exact ⟨by first | omega | (simp; omega), _, rfl, rfl⟩) ?_
        | refine Both.mk ?_ ?_
        | refine Exists.intro _ (And.intro rfl ?_)
        | refine fun _ => ?_))
      | exact rfl)
    · rename_i q
      exact absurd rfl q
    · exact yes (beq_self_eq_true _)
    · rename_i q q2
      exact yes (by rw [laV_flip q2]; rfl)
  · repeat' (first
      | ((conv => whnf); (first
        | refine brK_dec (fun _ => ?_) (fun _ => ?_)
        | refine brK_ndec (fun _ => ?_) (fun _ => ?_)
        | refine brK_not (fun _ => ?_) (fun _ => ?_)
        | refine brK_in (fun _ => ?_) (fun _ => ?_)
        | refine And.intro (by first | exact rfl | exact (by first | exact tab_app hT | exact hls) | exact ⟨_, rfl, rfl⟩ | exact ⟨rfl, rfl, rfl⟩ | exact of_decide_eq_true rfl | exact trivial | assumption | omega | (show (_ ≤ _ ∧ _ ≤ _); omega) | (simp; omega) | exact ⟨by first | omega | (simp; omega), _, rfl, rfl⟩) ?_
        | refine Both.mk ?_ ?_
        | refine Exists.intro _ (And.intro rfl ?_)
        | refine fun _ => ?_))
      | exact rfl)
    · rename_i q
      exact absurd rfl q
    · exact yes (beq_self_eq_true _)
    · rename_i q q2
      exact yes (by rw [laV_flip q2]; rfl)
def c_laws_FnLightChain : Con := ⟨0, 0, false, fun xs hs Fs K => match xs with
  | [.bytes b] => hs = [] ∧ hasTab Fs ∧ b.length ≤ 9223372036854775807 ∧ K (B true) [] []
  | _ => False⟩
theorem k_laws_FnLightChain : Keeps' Tryz.prog 5 c_laws_FnLightChain := by
  refine keeps_of_vc mix TyT_ok (cok_cons k_spec_DrawLightAccept Tryz.func12 rfl rfl (cok_cons k_impl_LightAccept Tryz.func13 rfl rfl (cok_cons k_spec_LightAccept Tryz.func14 rfl rfl (cok_cons k_impl_ChainCheck Tryz.func11 rfl rfl (cok_cons k_impl_ReceiptCheck Tryz.func15 rfl rfl cok_nil))))) Tryz.func5 rfl rfl rfl ?_
  intro aargs hs Fs K h
  simp only [c_laws_FnLightChain] at h
  split at h
  case h_2 => exact h.elim
  rename_i b
  obtain ⟨rfl, hT, hb, h⟩ := h
  have yes : ∀ {b : Bool}, b = true → K (B b) [] [] := fun e => by rw [e]; exact h
  repeat' (first
    | ((conv => whnf); (first
      | refine brK_dec (fun _ => ?_) (fun _ => ?_)
      | refine brK_ndec (fun _ => ?_) (fun _ => ?_)
      | refine brK_not (fun _ => ?_) (fun _ => ?_)
      | refine brK_in (fun _ => ?_) (fun _ => ?_)
      | refine And.intro (by first | exact rfl | exact ⟨_, rfl, rfl⟩ | exact ⟨rfl, rfl, rfl⟩ | exact of_decide_eq_true rfl | exact trivial | assumption | omega | (show (_ ≤ _ ∧ _ ≤ _); omega) | (simp; omega) | exact ⟨by first | omega | (simp; omega), _, rfl, rfl⟩) ?_
      | refine Both.mk ?_ ?_
      | refine Exists.intro _ (And.intro rfl ?_)
      | refine fun _ => ?_))
    | exact rfl)
  · exact h
  all_goals
    rename_i hb2 e ls s i d g p he hls hl hp
    have he1 := he.1
    have he2 := he.2
    have hlen : (ls.map LkD.row).length = ls.length := by simp
  · repeat' (first
      | ((conv => whnf); (first
        | refine brK_dec (fun _ => ?_) (fun _ => ?_)
        | refine brK_ndec (fun _ => ?_) (fun _ => ?_)
        | refine brK_not (fun _ => ?_) (fun _ => ?_)
        | refine brK_in (fun _ => ?_) (fun _ => ?_)
        | refine And.intro (by first | exact rfl | exact (by first | exact tab_app hT | exact hls) | exact ⟨_, rfl, rfl⟩ | exact ⟨rfl, rfl, rfl⟩ | exact of_decide_eq_true rfl | exact trivial | assumption | omega | (show (_ ≤ _ ∧ _ ≤ _); omega) | (simp; omega) | exact ⟨by first | omega | (simp; omega), _, rfl, rfl⟩) ?_
        | refine Both.mk ?_ ?_
        | refine Exists.intro _ (And.intro rfl ?_)
        | refine fun _ => ?_))
      | exact rfl)
    · rename_i q
      exact absurd rfl q
    · rename_i q q2
      exact yes (by rw [laV_yes q2]; exact beq_self_eq_true _)
    · rename_i q q2
      exact yes (by rw [laV_no q2]; rfl)
  · repeat' (first
      | ((conv => whnf); (first
        | refine brK_dec (fun _ => ?_) (fun _ => ?_)
        | refine brK_ndec (fun _ => ?_) (fun _ => ?_)
        | refine brK_not (fun _ => ?_) (fun _ => ?_)
        | refine brK_in (fun _ => ?_) (fun _ => ?_)
        | refine And.intro (by first | exact rfl | exact (by first | exact tab_app hT | exact hls) | exact ⟨_, rfl, rfl⟩ | exact ⟨rfl, rfl, rfl⟩ | exact of_decide_eq_true rfl | exact trivial | assumption | omega | (show (_ ≤ _ ∧ _ ≤ _); omega) | (simp; omega) | exact ⟨by first | omega | (simp; omega), _, rfl, rfl⟩) ?_
        | refine Both.mk ?_ ?_
        | refine Exists.intro _ (And.intro rfl ?_)
        | refine fun _ => ?_))
      | exact rfl)
    · rename_i q
      exact absurd rfl q
    · rename_i q q2
      exact yes (by rw [laV_yes q2]; exact beq_self_eq_true _)
    · rename_i q q2
      exact yes (by rw [laV_no q2]; rfl)
end Go.Proofs.YtlhbdhccddadaaaGreatDoor
