/-
A reader of receipts: what it accepts, by the program and by the reference.
No conditions.
-/
import Derived.Test.YtlhbdhccddadaaaDoorFlA
import Derived.Test.YtlhbdhccddadaaaDoorRcA
namespace Go.Proofs.YtlhbdhccddadaaaDoor
open Go Go.Vc
set_option maxHeartbeats 4000000
set_option maxRecDepth 10000
def laV (e : EpD) (ls : List LkD) (s i : Int) (d : Bool) (g : Int) (p : List Int) : Bool := accV e ls && rcV (lastE e ls).r s i d g p
theorem laV_yes {e : EpD} {ls : List LkD} {s i : Int} {d : Bool} {g : Int} {p : List Int} (h : accV e ls = true) : laV e ls s i d g p = rcV (lastE e ls).r s i d g p := by rw [laV, h, Bool.true_and]
theorem laV_no {e : EpD} {ls : List LkD} {s i : Int} {d : Bool} {g : Int} {p : List Int} (h : accV e ls = false) : laV e ls s i d g p = false := by rw [laV, h, Bool.false_and]
theorem laV_no1 {e : EpD} {ls : List LkD} {s i : Int} {d : Bool} {g : Int} {p : List Int} (h : EpV e.n e.c e.k e.r = false) : laV e ls s i d g p = false := laV_no (by rw [accV, EpD.ok, h, Bool.false_and])
theorem laV_no2 {e : EpD} {ls : List LkD} {s i : Int} {d : Bool} {g : Int} {p : List Int} (h : EpV e.n e.c e.k e.r = true ∧ chainV e ls = false) : laV e ls s i d g p = false := laV_no (by rw [accV, h.2, Bool.and_false])
def c_impl_LightAccept : Con := ⟨0, 0, false, fun xs hs Fs K => match xs with
  | [.agg [.val (.int .i64 n), .ints c, .ints k, .val (.int .i64 r)], .sl 7 rows, .val (.int .i64 s), .agg [.val (.int .i64 i), .val (.bool d), .val (.int .i64 g)], .ints p] => hs = [] ∧ hasTab Fs ∧ ∃ ls : List LkD, rows = ls.map LkD.row ∧ c.length < 2000000 ∧ k.length < 2000000 ∧ (∀ x ∈ ls, x.small) ∧ ls.length < 2000000 ∧ p.length < 2000000 ∧
    K (B (laV ⟨n, c, k, r⟩ ls s i d g p)) [] []
  | _ => False⟩
theorem k_impl_LightAccept : Keeps' Tryd.prog 27 c_impl_LightAccept := by
  refine keeps_of_vc mix TyT_ok (cok_cons k_impl_follow Tryd.func49 rfl rfl (cok_cons k_impl_ReceiptCheck Tryd.func50 rfl rfl cok_nil)) Tryd.func27 rfl rfl rfl ?_
  intro aargs hs Fs K h
  simp only [c_impl_LightAccept] at h
  split at h
  case h_2 => exact h.elim
  rename_i n c k r rows s i d g p
  obtain ⟨rfl, hT, ls, rfl, l1, l2, hsm, l3, l4, h⟩ := h
  have no : ∀ {b : Bool}, laV ⟨n, c, k, r⟩ ls s i d g p = b → K (B b) [] [] := fun e => by rw [← e]; exact h
  have hlen : (ls.map LkD.row).length = ls.length := by simp
  repeat' (first
    | ((conv => whnf); (first
      | refine brK_dec (fun _ => ?_) (fun _ => ?_)
      | refine brK_ndec (fun _ => ?_) (fun _ => ?_)
      | refine brK_not (fun _ => ?_) (fun _ => ?_)
      | refine brK_in (fun _ => ?_) (fun _ => ?_)
      | refine And.intro (by first | exact rfl | exact (by first | exact tab_app hT | exact hsm) | exact ⟨_, rfl, rfl⟩ | exact ⟨rfl, rfl, rfl⟩ | exact of_decide_eq_true rfl | exact trivial | assumption | omega | (show (_ ≤ _ ∧ _ ≤ _); omega) | (simp; omega) | exact ⟨by first | omega | (simp; omega), _, rfl, rfl⟩) ?_
      | refine Both.mk ?_ ?_
      | refine Exists.intro _ (And.intro rfl ?_)
      | refine fun _ => ?_))
    | exact rfl)
  · rename_i q
    exact no (laV_yes q)
  · rename_i q
    exact no (laV_no1 q)
  · rename_i q
    exact no (laV_no2 q)
def c_spec_LightAccept : Con := ⟨0, 0, false, fun xs hs _ K => match xs with
  | [.agg [.val (.int .i64 n), .ints c, .ints k, .val (.int .i64 r)], .sl 7 rows, .val (.int .i64 s), .agg [.val (.int .i64 i), .val (.bool d), .val (.int .i64 g)], .ints p] => hs = [] ∧ ∃ ls : List LkD, rows = ls.map LkD.row ∧ c.length < 2000000 ∧ k.length < 2000000 ∧ (∀ x ∈ ls, x.small) ∧ ls.length < 2000000 ∧ p.length < 2000000 ∧
    K (B (laV ⟨n, c, k, r⟩ ls s i d g p)) [] []
  | _ => False⟩
theorem k_spec_LightAccept : Keeps' Tryd.prog 25 c_spec_LightAccept := by
  refine keeps_of_vc mix TyT_ok (cok_cons k_spec_ChainCheck Tryd.func19 rfl rfl (cok_cons k_spec_ReceiptCheck Tryd.func48 rfl rfl cok_nil)) Tryd.func25 rfl rfl rfl ?_
  intro aargs hs Fs K h
  simp only [c_spec_LightAccept] at h
  split at h
  case h_2 => exact h.elim
  rename_i n c k r rows s i d g p
  obtain ⟨rfl, ls, rfl, l1, l2, hsm, l3, l4, h⟩ := h
  have no : ∀ {b : Bool}, laV ⟨n, c, k, r⟩ ls s i d g p = b → K (B b) [] [] := fun e => by rw [← e]; exact h
  have hlen : (ls.map LkD.row).length = ls.length := by simp
  repeat' (first
    | ((conv => whnf); (first
      | refine brK_dec (fun _ => ?_) (fun _ => ?_)
      | refine brK_ndec (fun _ => ?_) (fun _ => ?_)
      | refine brK_not (fun _ => ?_) (fun _ => ?_)
      | refine brK_in (fun _ => ?_) (fun _ => ?_)
      | refine And.intro (by first | exact rfl | exact hsm | exact ⟨_, rfl, rfl⟩ | exact ⟨rfl, rfl, rfl⟩ | exact of_decide_eq_true rfl | exact trivial | assumption | omega | (show (_ ≤ _ ∧ _ ≤ _); omega) | (simp; omega) | exact ⟨by first | omega | (simp; omega), _, rfl, rfl⟩) ?_
      | refine Both.mk ?_ ?_
      | refine Exists.intro _ (And.intro rfl ?_)
      | refine fun _ => ?_))
    | exact rfl)
  · rename_i q
    exact no (laV_yes q)
  · rename_i q
    exact no (laV_no q)
end Go.Proofs.YtlhbdhccddadaaaDoor
