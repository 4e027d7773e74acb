/-
The law that each link follows the epoch ahead of it: its contract.
No conditions.
-/
import Derived.Test.YtpbpabhkkfgheaaDoorClA
namespace Go.Proofs.YtpbpabhkkfgheaaDoor
open Go Go.Vc
set_option maxHeartbeats 4000000
set_option maxRecDepth 10000
def c_laws_FnChainLinks : Con := ⟨0, 0, false, fun xs hs Fs K => match xs with
  | [.bytes b0] => hs = [] ∧ hasTab Fs ∧ b0.length ≤ 9223372036854775807 ∧ K (B true) [] []
  | _ => False⟩
theorem k_laws_FnChainLinks : Keeps' Tryd.prog 7 c_laws_FnChainLinks := by
  refine keeps_of_vc mix TyT_ok (cok_cons k_spec_DrawChainCheck Tryd.func16 rfl rfl (cok_cons k_impl_ChainCheck Tryd.func17 rfl rfl (cok_cons k_spec_ChainCheck Tryd.func18 rfl rfl (cok_cons (keeps_nil k_laws_sameEpoch) Tryd.func19 rfl rfl (cok_cons k_impl_LinkCheck Tryd.func21 rfl rfl cok_nil))))) Tryd.func7 rfl rfl rfl ?_
  intro aargs hs Fs K h
  simp only [c_laws_FnChainLinks] at h
  split at h
  case h_2 => exact h.elim
  rename_i b0
  obtain ⟨rfl, hT, hb0, h⟩ := h
  repeat' (first
    | ((conv => whnf); (first
      | refine draw_plan (id := 12) [] [] (.take 0 (.take 1 (.take 2 (.take 3 (.take 4 (.run 5 (.take 6 .done))))))) (by kernel_rfl) (by kernel_rfl) ?_
      | refine brK_dec (fun _ => ?_) (fun _ => ?_)
      | refine brK_ndec (fun _ => ?_) (fun _ => ?_)
      | refine brK_not (fun _ => ?_) (fun _ => ?_)
      | refine brK_in (fun _ => ?_) (fun _ => ?_)
      | refine And.intro (by first | exact rfl | exact (tab_app hT) | exact ⟨_, rfl, rfl⟩ | exact ⟨rfl, rfl, rfl⟩ | exact of_decide_eq_true rfl | exact trivial | assumption | omega | (show (_ ≤ _ ∧ _ ≤ _); omega) | (simp; omega) | exact ⟨by first | omega | (simp; omega), _, rfl, rfl⟩) ?_
      | refine Both.mk ?_ ?_
      | refine Exists.intro _ (And.intro rfl ?_)
      | refine fun _ => ?_))
    | exact rfl)
  · exact h
  rename_i hc0 e ls he hls hl
  have hl1 := last_small he hls
  have hl2 := hl1.2
  have hl1 := hl1.1
  have he1 := he.1
  have he2 := he.2
  have hlen : (ls.map LkD.row).length = ls.length := by simp
  repeat' (first
    | ((conv => whnf); (first
      | refine draw_plan (id := 12) [] [] (.take 0 (.take 1 (.take 2 (.take 3 (.take 4 (.run 5 (.take 6 .done))))))) (by kernel_rfl) (by kernel_rfl) ?_
      | refine brK_dec (fun _ => ?_) (fun _ => ?_)
      | refine brK_ndec (fun _ => ?_) (fun _ => ?_)
      | refine brK_not (fun _ => ?_) (fun _ => ?_)
      | refine brK_in (fun _ => ?_) (fun _ => ?_)
      | refine And.intro (by first | exact rfl | exact (by first | exact tab_app hT | exact hls) | exact ⟨_, rfl, rfl⟩ | exact ⟨rfl, rfl, rfl⟩ | exact of_decide_eq_true rfl | exact trivial | assumption | omega | (show (_ ≤ _ ∧ _ ≤ _); omega) | (simp; omega) | exact ⟨by first | omega | (simp; omega), _, rfl, rfl⟩) ?_
      | refine Both.mk ?_ ?_
      | refine Exists.intro _ (And.intro rfl ?_)
      | refine fun _ => ?_))
    | exact rfl)
  all_goals first
    | exact h
    | (exfalso; simp_all; done)
    | skip
  rename_i q1 q2 q3
  have q1 : accV e ls = true := q1
  have q1' := q1
  simp only [accV, Bool.and_eq_true] at q1'
  obtain ⟨hok, hch⟩ := q1'
  have hok' : EpV e.n e.c e.k e.r = true := hok
  obtain ⟨⟨n0, n1⟩, _⟩ := EpV_out hok'
  refine loop_in (ι := Nat) (fun i => mkS 74 [(2, B false), (4, .sl 7 (ls.map LkD.row)), (5, .ptr 0 0), (9, .ptr 1 0), (10, I i)] [.cells [I (lastE e ls).n, .ints (lastE e ls).c, .ints (lastE e ls).k, I (lastE e ls).r], .cells [I (lastE e (ls.take i)).n, .ints (lastE e (ls.take i)).c, .ints (lastE e (ls.take i)).k, I (lastE e (ls.take i)).r]] Fs)
    (fun i => i ≤ ls.length) (fun i => ls.length - i) 0 [4, 8] (Nat.zero_le _) ?_ ?_
  · repeat' (first
      | ((conv => whnf); (first
        | refine brK_dec (fun _ => ?_) (fun _ => ?_)
        | refine brK_ndec (fun _ => ?_) (fun _ => ?_)
        | refine brK_not (fun _ => ?_) (fun _ => ?_)
        | refine brK_in (fun _ => ?_) (fun _ => ?_)
        | refine And.intro (by first | exact rfl | exact ⟨_, rfl, rfl⟩ | exact ⟨rfl, rfl, rfl⟩ | exact of_decide_eq_true rfl | exact trivial | assumption | omega | (show (_ ≤ _ ∧ _ ≤ _); omega) | (simp; omega) | exact ⟨by first | omega | (simp; omega), _, rfl, rfl⟩) ?_
        | refine Both.mk ?_ ?_
        | refine Exists.intro _ (And.intro rfl ?_)
        | refine fun _ => ?_))
      | exact rfl)
  intro i hi
  have hsl := last_small (ls := ls.take i) he fun x hx => hls x (List.mem_of_mem_take hx)
  have hs1 := hsl.1
  have hs2 := hsl.2
  repeat' (first
    | ((conv => whnf); (first
      | refine draw_plan (id := 12) [] [] (.take 0 (.take 1 (.take 2 (.take 3 (.take 4 (.run 5 (.take 6 .done))))))) (by kernel_rfl) (by kernel_rfl) ?_
      | refine brK_dec (fun _ => ?_) (fun _ => ?_)
      | refine brK_ndec (fun _ => ?_) (fun _ => ?_)
      | refine brK_not (fun _ => ?_) (fun _ => ?_)
      | refine brK_in (fun _ => ?_) (fun _ => ?_)
      | refine And.intro (by first | exact rfl | exact ⟨_, rfl, rfl⟩ | exact ⟨rfl, rfl, rfl⟩ | exact of_decide_eq_true rfl | exact trivial | assumption | omega | (show (_ ≤ _ ∧ _ ≤ _); omega) | (simp; omega) | exact ⟨by first | omega | (simp; omega), _, rfl, rfl⟩) ?_
      | refine Both.mk ?_ ?_
      | refine Exists.intro _ (And.intro rfl ?_)
      | refine fun _ => ?_))
    | exact rfl)
  · rename_i hil row hrow
    obtain ⟨x, hx, rfl⟩ := row_at hrow
    have hx : ls[i]? = some x := hx
    have hsx := hls x (List.mem_of_getElem? hx)
    have hx1 := hsx.1.1
    have hx2 := hsx.1.2
    have hx3 := hsx.2
    repeat' (first
      | ((conv => whnf); (first
        | refine draw_plan (id := 12) [] [] (.take 0 (.take 1 (.take 2 (.take 3 (.take 4 (.run 5 (.take 6 .done))))))) (by kernel_rfl) (by kernel_rfl) ?_
        | refine brK_dec (fun _ => ?_) (fun _ => ?_)
        | refine brK_ndec (fun _ => ?_) (fun _ => ?_)
        | refine brK_not (fun _ => ?_) (fun _ => ?_)
        | refine brK_in (fun _ => ?_) (fun _ => ?_)
        | refine And.intro (by first | exact rfl | exact (tab_app hT) | exact ⟨_, rfl, rfl⟩ | exact ⟨rfl, rfl, rfl⟩ | exact of_decide_eq_true rfl | exact trivial | assumption | omega | (show (_ ≤ _ ∧ _ ≤ _); omega) | (simp; omega) | exact ⟨by first | omega | (simp; omega), _, rfl, rfl⟩) ?_
        | refine Both.mk ?_ ?_
        | refine Exists.intro _ (And.intro rfl ?_)
        | refine fun _ => ?_))
      | exact rfl)
    · rename_i q
      rw [chainV_no hx q] at hch
      cases hch
    · rename_i q row' hrow'
      obtain ⟨x', hx', rfl⟩ := row_at hrow'
      have hx' : ls[i]? = some x' := hx'
      obtain rfl : x = x' := Option.some.inj (hx.symm.trans hx')
      repeat' (first
        | ((conv => whnf); (first
          | refine draw_plan (id := 12) [] [] (.take 0 (.take 1 (.take 2 (.take 3 (.take 4 (.run 5 (.take 6 .done))))))) (by kernel_rfl) (by kernel_rfl) ?_
          | refine brK_dec (fun _ => ?_) (fun _ => ?_)
          | refine brK_ndec (fun _ => ?_) (fun _ => ?_)
          | refine brK_not (fun _ => ?_) (fun _ => ?_)
          | refine brK_in (fun _ => ?_) (fun _ => ?_)
          | refine And.intro (by first | exact rfl | exact ⟨_, rfl, rfl⟩ | exact ⟨rfl, rfl, rfl⟩ | exact of_decide_eq_true rfl | exact trivial | assumption | omega | (show (_ ≤ _ ∧ _ ≤ _); omega) | (simp; omega) | exact ⟨by first | omega | (simp; omega), _, rfl, rfl⟩) ?_
          | refine Both.mk ?_ ?_
          | refine Exists.intro _ (And.intro rfl ?_)
          | refine fun _ => ?_))
        | exact rfl)
      refine ⟨i + 1, [0, 1], by omega, by omega, ?_⟩
      rw [lastE_take hx]
      repeat' (first
        | ((conv => whnf); (first
          | refine brK_dec (fun _ => ?_) (fun _ => ?_)
          | refine brK_ndec (fun _ => ?_) (fun _ => ?_)
          | refine brK_not (fun _ => ?_) (fun _ => ?_)
          | refine brK_in (fun _ => ?_) (fun _ => ?_)
          | refine And.intro (by first | exact rfl | exact ⟨_, rfl, rfl⟩ | exact ⟨rfl, rfl, rfl⟩ | exact of_decide_eq_true rfl | exact trivial | assumption | omega | (show (_ ≤ _ ∧ _ ≤ _); omega) | (simp; omega) | exact ⟨by first | omega | (simp; omega), _, rfl, rfl⟩) ?_
          | refine Both.mk ?_ ?_
          | refine Exists.intro _ (And.intro rfl ?_)
          | refine fun _ => ?_))
        | exact rfl)
  · rename_i hil
    rw [List.take_of_length_le (by omega)]
    rw [decide_eq_true ⟨rfl, rfl, rfl, rfl⟩]
    exact h
end Go.Proofs.YtpbpabhkkfgheaaDoor
