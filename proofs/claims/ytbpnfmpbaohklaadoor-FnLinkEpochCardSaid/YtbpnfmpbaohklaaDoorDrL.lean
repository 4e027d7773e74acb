/-
The drawn link of the law on links' epochs.
No conditions.
-/
import Derived.Test.YtbpnfmpbaohklaaDoorDrK
namespace Go.Proofs.YtbpnfmpbaohklaaDoor
open Go Go.Vc
set_option maxHeartbeats 4000000
set_option maxRecDepth 10000
def c_spec_DrawLinkCheck : Con := ⟨2, 0, true, fun xs hs _ K => match xs with
  | [.bytes b] => hs = [] ∧ b.length ≤ 1048576 ∧
    Both (∀ (e : EpD) (x : LkD), e.c.length ≤ 30 → e.k.length ≤ 30 → x.fits → K (.tup [.agg [I e.n, .ints e.c, .ints e.k, I e.r], .agg [I x.e.n, .ints x.e.c, .ints x.e.k, I x.e.r, I x.d, .ints x.s, I x.m]]) [] [])
      (Both (∀ (e : EpD), e.c.length ≤ 30 → e.k.length ≤ 30 → K (.tup [.agg [I e.n, .ints e.c, .ints e.k, I e.r], .agg [I e.n, .ints e.c, .ints e.k, I e.r, I 0, .val (.slice none 0 0), I 0]]) [] [])
        (∀ (e : EpD) (x : LkD), e.c.length ≤ 30 → e.k.length ≤ 30 → x.fits → K (.tup [.agg [I e.n, .own 0, .own 1, I e.r], .agg [I x.e.n, .ints x.e.c, .ints x.e.k, I x.e.r, I x.d, .ints x.s, I x.m]]) [.iarr e.c, .iarr e.k] []))
  | _ => False⟩
theorem k_spec_DrawLinkCheck : Keeps' Tryd.prog 39 c_spec_DrawLinkCheck := by
  refine keeps_of_vc mix TyT_ok (cok_cons k_spec_l6Open Tryd.func68 rfl rfl (cok_cons k_spec_l92Chain Tryd.func81 rfl rfl (cok_cons k_spec_l6Rd_pick Tryd.func71 rfl rfl (cok_cons k_spec_l92Spoilt Tryd.func77 rfl rfl cok_nil)))) Tryd.func39 rfl rfl rfl ?_
  intro aargs hs Fs K h
  simp only [c_spec_DrawLinkCheck] at h
  split at h
  case h_2 => exact h.elim
  rename_i b
  obtain ⟨rfl, hb, h⟩ := h
  repeat' (first
    | ((conv => whnf); (first
      | refine draw_plan (id := 4) [0,1] [4] (.take 0 (.take 1 (.take 2 (.run 3 (.run 4 .done))))) (by kernel_rfl) (by kernel_rfl) ?_
      | refine draw_plan (id := 7) [0,1] [5] (.take 0 (.take 1 (.take 2 (.take 3 (.run 4 (.run 5 .done)))))) (by kernel_rfl) (by kernel_rfl) ?_
      | refine brK_dec (fun _ => ?_) (fun _ => ?_)
      | refine brK_ndec (fun _ => ?_) (fun _ => ?_)
      | refine brK_not (fun _ => ?_) (fun _ => ?_)
      | refine brK_in (fun _ => ?_) (fun _ => ?_)
      | refine And.intro (by first | exact rfl | exact ⟨_, rfl, rfl⟩ | exact ⟨rfl, rfl, rfl⟩ | exact of_decide_eq_true rfl | exact trivial | assumption | omega | (show (_ ≤ _ ∧ _ ≤ _); omega) | (simp; omega) | exact ⟨by first | omega | (simp; omega), _, rfl, rfl⟩) ?_
      | refine Both.mk ?_ ?_
      | refine Exists.intro _ (And.intro rfl ?_)
      | refine fun _ => ?_))
    | exact rfl)
  · rename_i b1 hb1 o e ls p1 p2 p3 p4 p5 p6 p7 p8
    exact h.r.l e (by omega) (by omega)
  · rename_i b1 hb1 o e ls p1 p2 p3 p4 p5 p6 p7 p8 z z0 z1 hz o2 n' c' k' r' w1 w2 w3 w4 row hrow
    obtain ⟨x, hx, rfl⟩ := row_at hrow
    have hfx := p6 x (List.mem_of_getElem? hx)
    repeat' (first
      | ((conv => whnf); (first
        | refine draw_plan (id := 4) [0,1] [4] (.take 0 (.take 1 (.take 2 (.run 3 (.run 4 .done))))) (by kernel_rfl) (by kernel_rfl) ?_
        | refine draw_plan (id := 7) [0,1] [5] (.take 0 (.take 1 (.take 2 (.take 3 (.run 4 (.run 5 .done)))))) (by kernel_rfl) (by kernel_rfl) ?_
        | refine brK_dec (fun _ => ?_) (fun _ => ?_)
        | refine brK_ndec (fun _ => ?_) (fun _ => ?_)
        | refine brK_not (fun _ => ?_) (fun _ => ?_)
        | refine brK_in (fun _ => ?_) (fun _ => ?_)
        | refine And.intro (by first | exact rfl | exact ⟨_, rfl, rfl⟩ | exact ⟨rfl, rfl, rfl⟩ | exact of_decide_eq_true rfl | exact trivial | assumption | omega | (show (_ ≤ _ ∧ _ ≤ _); omega) | (simp; omega) | exact ⟨by first | omega | (simp; omega), _, rfl, rfl⟩) ?_
        | refine Both.mk ?_ ?_
        | refine Exists.intro _ (And.intro rfl ?_)
        | refine fun _ => ?_))
      | exact rfl)
    exact h.r.r ⟨n', c', k', r'⟩ x (by dsimp only; omega) (by dsimp only; omega) hfx
  · rename_i b1 hb1 o e ls p1 p2 p3 p4 p5 p6 p7 p8 z z0 z1 hz row hrow
    obtain ⟨x, hx, rfl⟩ := row_at hrow
    have hfx := p6 x (List.mem_of_getElem? hx)
    repeat' (first
      | ((conv => whnf); (first
        | refine draw_plan (id := 4) [0,1] [4] (.take 0 (.take 1 (.take 2 (.run 3 (.run 4 .done))))) (by kernel_rfl) (by kernel_rfl) ?_
        | refine draw_plan (id := 7) [0,1] [5] (.take 0 (.take 1 (.take 2 (.take 3 (.run 4 (.run 5 .done)))))) (by kernel_rfl) (by kernel_rfl) ?_
        | refine brK_dec (fun _ => ?_) (fun _ => ?_)
        | refine brK_ndec (fun _ => ?_) (fun _ => ?_)
        | refine brK_not (fun _ => ?_) (fun _ => ?_)
        | refine brK_in (fun _ => ?_) (fun _ => ?_)
        | refine And.intro (by first | exact rfl | exact ⟨_, rfl, rfl⟩ | exact ⟨rfl, rfl, rfl⟩ | exact of_decide_eq_true rfl | exact trivial | assumption | omega | (show (_ ≤ _ ∧ _ ≤ _); omega) | (simp; omega) | exact ⟨by first | omega | (simp; omega), _, rfl, rfl⟩) ?_
        | refine Both.mk ?_ ?_
        | refine Exists.intro _ (And.intro rfl ?_)
        | refine fun _ => ?_))
      | exact rfl)
    exact h.l e x (by omega) (by omega) hfx
end Go.Proofs.YtbpnfmpbaohklaaDoor
