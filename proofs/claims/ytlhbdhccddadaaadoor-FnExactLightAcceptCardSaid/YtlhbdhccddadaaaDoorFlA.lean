/-
A chain of links followed one by one: the program's way.
No conditions.
-/
import Derived.Test.YtlhbdhccddadaaaDoorChA
namespace Go.Proofs.YtlhbdhccddadaaaDoor
open Go Go.Vc
set_option maxHeartbeats 4000000
set_option maxRecDepth 10000
def c_impl_follow : Con := ⟨0, 0, true, fun xs hs Fs K => match xs with
  | [.agg [.val (.int .i64 n), .ints c, .ints k, .val (.int .i64 r)], .sl 7 rows] => hs = [] ∧ hasTab Fs ∧ ∃ ls : List LkD, rows = ls.map LkD.row ∧ c.length < 2000000 ∧ k.length < 2000000 ∧ (∀ x ∈ ls, x.small) ∧ ls.length < 2000000 ∧
    Both (accV ⟨n, c, k, r⟩ ls = true → K (.tup [.agg [I (lastE ⟨n, c, k, r⟩ ls).n, .ints (lastE ⟨n, c, k, r⟩ ls).c, .ints (lastE ⟨n, c, k, r⟩ ls).k, I (lastE ⟨n, c, k, r⟩ ls).r], .val .nilIface]) [] [])
      (Both (EpV n c k r = false → K (.tup [.agg [I 0, .val (.slice none 0 0), .val (.slice none 0 0), I 0], .iface 97 (.agg [])]) [] [])
        (EpV n c k r = true ∧ chainV ⟨n, c, k, r⟩ ls = false → K (.tup [.agg [I 0, .val (.slice none 0 0), .val (.slice none 0 0), I 0], .iface 99 (.agg [I (reachN ⟨n, c, k, r⟩ ls)])]) [] []))
  | _ => False⟩
theorem k_impl_follow : Keeps' Tryd.prog 49 c_impl_follow := by
  refine keeps_of_vc mix TyT_ok (cok_cons k_impl_EpochValid Tryd.func45 rfl rfl (cok_cons k_impl_LinkCheck Tryd.func46 rfl rfl cok_nil)) Tryd.func49 rfl rfl rfl ?_
  intro aargs hs Fs K h
  simp only [c_impl_follow] at h
  split at h
  case h_2 => exact h.elim
  rename_i n c k r rows
  obtain ⟨rfl, hT, ls, rfl, l1, l2, hsm, l3, h⟩ := h
  have hlen : (ls.map LkD.row).length = ls.length := by simp
  generalize he0 : (⟨n, c, k, r⟩ : EpD) = e0 at h
  have hs0 : e0.small := by rw [← he0]; exact ⟨l1, l2⟩
  repeat' (first
    | ((conv => whnf); (first
      | refine brK_dec (fun _ => ?_) (fun _ => ?_)
      | refine brK_ndec (fun _ => ?_) (fun _ => ?_)
      | refine brK_not (fun _ => ?_) (fun _ => ?_)
      | refine brK_in (fun _ => ?_) (fun _ => ?_)
      | refine And.intro (by first | exact rfl | exact ⟨_, rfl, rfl⟩ | exact ⟨rfl, rfl, rfl⟩ | exact of_decide_eq_true rfl | exact trivial | assumption | omega | (show (_ ≤ _ ∧ _ ≤ _); omega) | (simp; omega) | exact ⟨by first | omega | (simp; omega), _, rfl, rfl⟩) ?_
      | refine Both.mk ?_ ?_
      | refine Exists.intro _ (And.intro rfl ?_)
      | refine fun _ => ?_))
    | exact rfl)
  · rename_i q
    exact h.r.l q
  · rename_i q
    have hok : e0.ok = true := by rw [← he0]; exact q
    refine loop_in (ι := Nat) (fun i => mkS 35 [(1, .sl 7 (ls.map LkD.row)), (2, .ptr 0 0), (4, .ptr 1 0), (5, .val .nilIface), (6, .ptr 2 0), (16, .sl 7 (ls.map LkD.row)), (17, I (ls.map LkD.row).length), (18, I i)] [.cells [I n, .ints c, .ints k, I r], .cells [I 0, .val (.slice none 0 0), .val (.slice none 0 0), I 0], .cells [I (lastE e0 (ls.take i)).n, .ints (lastE e0 (ls.take i)).c, .ints (lastE e0 (ls.take i)).k, I (lastE e0 (ls.take i)).r]] Fs) (fun i => i ≤ ls.length ∧ chainV e0 (ls.take i) = true) (fun i => ls.length - i) 0 [0, 1, 2] ⟨Nat.zero_le _, rfl⟩ ?_ ?_
    · subst he0
      repeat' (first
        | ((conv => whnf); (first
          | refine brK_dec (fun _ => ?_) (fun _ => ?_)
          | refine brK_ndec (fun _ => ?_) (fun _ => ?_)
          | refine brK_not (fun _ => ?_) (fun _ => ?_)
          | refine brK_in (fun _ => ?_) (fun _ => ?_)
          | refine And.intro (by first | exact rfl | exact ⟨_, rfl, rfl⟩ | exact ⟨rfl, rfl, rfl⟩ | exact of_decide_eq_true rfl | exact trivial | assumption | omega | (show (_ ≤ _ ∧ _ ≤ _); omega) | (simp; omega) | exact ⟨by first | omega | (simp; omega), _, rfl, rfl⟩) ?_
          | refine Both.mk ?_ ?_
          | refine Exists.intro _ (And.intro rfl ?_)
          | refine fun _ => ?_))
        | exact rfl)
    intro i ⟨hi, hch⟩
    have hsl : (lastE e0 (ls.take i)).small := lastE_small hs0 fun x hx => hsm x (List.mem_of_mem_take hx)
    have hs1 := hsl.1
    have hs2 := hsl.2
    repeat' (first
      | ((conv => whnf); (first
        | refine brK_dec (fun _ => ?_) (fun _ => ?_)
        | refine brK_ndec (fun _ => ?_) (fun _ => ?_)
        | refine brK_not (fun _ => ?_) (fun _ => ?_)
        | refine brK_in (fun _ => ?_) (fun _ => ?_)
        | refine And.intro (by first | exact rfl | exact ⟨_, rfl, rfl⟩ | exact ⟨rfl, rfl, rfl⟩ | exact of_decide_eq_true rfl | exact trivial | assumption | omega | (show (_ ≤ _ ∧ _ ≤ _); omega) | (simp; omega) | exact ⟨by first | omega | (simp; omega), _, rfl, rfl⟩) ?_
        | refine Both.mk ?_ ?_
        | refine Exists.intro _ (And.intro rfl ?_)
        | refine fun _ => ?_))
      | exact rfl)
    · rename_i hil e he
      obtain ⟨x, hx, rfl⟩ := row_at he
      have hx : ls[i]? = some x := hx
      have hsx := hsm x (List.mem_of_getElem? hx)
      have hx1 := hsx.1.1
      have hx2 := hsx.1.2
      have hx3 := hsx.2
      repeat' (first
        | ((conv => whnf); (first
          | refine brK_dec (fun _ => ?_) (fun _ => ?_)
          | refine brK_ndec (fun _ => ?_) (fun _ => ?_)
          | refine brK_not (fun _ => ?_) (fun _ => ?_)
          | refine brK_in (fun _ => ?_) (fun _ => ?_)
          | refine And.intro (by first | exact rfl | exact (tab_app hT) | exact ⟨_, rfl, rfl⟩ | exact ⟨rfl, rfl, rfl⟩ | exact of_decide_eq_true rfl | exact trivial | assumption | omega | (show (_ ≤ _ ∧ _ ≤ _); omega) | (simp; omega) | exact ⟨by first | omega | (simp; omega), _, rfl, rfl⟩) ?_
          | refine Both.mk ?_ ?_
          | refine Exists.intro _ (And.intro rfl ?_)
          | refine fun _ => ?_))
        | exact rfl)
      · rename_i q2
        have h9 := h.r.r ⟨q, chainV_no hx q2⟩
        rw [reachN_at ls e0 i x hx hch q2] at h9
        exact h9
      · rename_i q2
        refine ⟨i + 1, [0, 1, 2], ⟨by omega, by rw [chainV_take hx, hch]; exact q2⟩, by omega, ?_⟩
        rw [lastE_take hx]
        repeat' (first
          | ((conv => whnf); (first
            | refine brK_dec (fun _ => ?_) (fun _ => ?_)
            | refine brK_ndec (fun _ => ?_) (fun _ => ?_)
            | refine brK_not (fun _ => ?_) (fun _ => ?_)
            | refine brK_in (fun _ => ?_) (fun _ => ?_)
            | refine And.intro (by first | exact rfl | exact ⟨_, rfl, rfl⟩ | exact ⟨rfl, rfl, rfl⟩ | exact of_decide_eq_true rfl | exact trivial | assumption | omega | (show (_ ≤ _ ∧ _ ≤ _); omega) | (simp; omega) | exact ⟨by first | omega | (simp; omega), _, rfl, rfl⟩) ?_
            | refine Both.mk ?_ ?_
            | refine Exists.intro _ (And.intro rfl ?_)
            | refine fun _ => ?_))
          | exact rfl)
    · rename_i hil
      rw [List.take_of_length_le (by omega)] at hch ⊢
      exact h.l (by rw [accV, hok, hch]; rfl)
/-- What the reader reaches. -/
def rchV (e : EpD) (ls : List LkD) : Int := if e.ok = true then (reachN e ls : Int) else -1
def c_spec_LightReach : Con := ⟨0, 0, false, fun xs hs _ K => match xs with
  | [.agg [.val (.int .i64 n), .ints c, .ints k, .val (.int .i64 r)], .sl 7 rows] => hs = [] ∧ ∃ ls : List LkD, rows = ls.map LkD.row ∧ c.length < 2000000 ∧ k.length < 2000000 ∧ (∀ x ∈ ls, x.small) ∧ ls.length < 2000000 ∧
    K (I (rchV ⟨n, c, k, r⟩ ls)) [] []
  | _ => False⟩
end Go.Proofs.YtlhbdhccddadaaaDoor
