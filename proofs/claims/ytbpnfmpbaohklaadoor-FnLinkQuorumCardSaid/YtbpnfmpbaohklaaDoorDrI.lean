/-
The drawn epochs and secrets of the laws on the making of links.
No conditions.
-/
import Derived.Test.YtbpnfmpbaohklaaDoorDrG
import Derived.Test.YtbpnfmpbaohklaaDoorChP
namespace Go.Proofs.YtbpnfmpbaohklaaDoor
open Go Go.Vc
set_option maxHeartbeats 4000000
set_option maxRecDepth 10000
def c_spec_DrawLinkMake : Con := ⟨5, 0, false, fun xs hs _ K => match xs with
  | [.bytes b] => hs = [] ∧ b.length ≤ 1048576 ∧ ∀ n c k r n2 c2 k2 r2 s, c.length ≤ 30 → k.length ≤ 30 → c2.length ≤ 30 → k2.length ≤ 30 → s.length ≤ 30 →
      K (.tup [.agg [I n, .own 0, .own 1, I r], .agg [I n2, .own 2, .own 3, I r2], .own 4]) [.iarr c, .iarr k, .iarr c2, .iarr k2, .iarr s] []
  | _ => False⟩
theorem k_spec_DrawLinkMake : Keeps' Tryd.prog 36 c_spec_DrawLinkMake := by
  refine keeps_of_cut (r := 18) mix TyT_ok (cok_cons k_spec_l6Open Tryd.func68 rfl rfl (cok_cons k_spec_l92Epoch Tryd.func69 rfl rfl (cok_cons k_spec_l92Next Tryd.func70 rfl rfl (cok_cons k_spec_l6Rd_pick Tryd.func71 rfl rfl (cok_cons k_spec_l92Spoilt Tryd.func77 rfl rfl (cok_cons k_spec_l91Key Tryd.func78 rfl rfl cok_nil)))))) Tryd.func36 rfl rfl rfl rfl ?_
  intro aargs hs Fs K h
  simp only [c_spec_DrawLinkMake] at h
  split at h
  case h_2 => exact h.elim
  rename_i b
  obtain ⟨rfl, hb, h⟩ := h
  refine ⟨EpD × EpD × List Int, fun g => mkS 67 [(2, .ptr 0 0), (3, .ptr 1 0), (6, .ptr 2 0), (7, .own 8), (8, .ptr 3 0)]
    [.cells [I 0, .val (.slice none 0 0), .val (.slice none 0 0), I 0], .cells [I 0, .val (.slice none 0 0), .val (.slice none 0 0), I 0], .cells [I g.1.n, .own 4, .own 5, I g.1.r], .cells [I g.2.1.n, .own 6, .own 7, I g.2.1.r], .iarr g.1.c, .iarr g.1.k, .iarr g.2.1.c, .iarr g.2.1.k, .iarr g.2.2] Fs,
    fun g => g.1.c.length ≤ 30 ∧ g.1.k.length ≤ 30 ∧ g.2.1.c.length ≤ 30 ∧ g.2.1.k.length ≤ 30 ∧ g.2.2.length ≤ 30, ?_, ?_⟩
  · repeat' (first
      | ((conv => whnf); (first
        | refine brK_dec (fun _ => ?_) (fun _ => ?_)
        | refine brK_ndec (fun _ => ?_) (fun _ => ?_)
        | refine brK_not (fun _ => ?_) (fun _ => ?_)
        | refine brK_in (fun _ => ?_) (fun _ => ?_)
        | refine And.intro (by first | exact rfl | exact ⟨_, rfl, rfl⟩ | exact ⟨rfl, rfl, rfl⟩ | exact of_decide_eq_true rfl | exact trivial | assumption | omega | (show (_ ≤ _ ∧ _ ≤ _); omega) | (simp; omega) | exact ⟨by first | omega | (simp; omega), _, rfl, rfl⟩) ?_
        | refine Both.mk ?_ ?_
        | refine Exists.intro _ (And.intro rfl ?_)
        | refine fun _ => ?_))
      | exact rfl)
    rename_i b1 hb1 o1 n c k r s p1 p2 p3 p4 p5 p6 p7 p8 p9 p10 p11 o2 c2 k2 r2 s2 q1 q2 q3 q4 q5 q6
    refine loop_in (ι := Nat × Int × List Int) (fun g => mkS 67 [(2, .ptr 0 0), (3, .ptr 1 0), (4, .val (.slice none 0 0)), (5, .ptr 2 0), (6, .ptr 3 0), (7, .own 9), (8, .ptr 4 0), (10, I g.1)]
      [.cells [I 0, .val (.slice none 0 0), .val (.slice none 0 0), I 0], .cells [I 0, .val (.slice none 0 0), .val (.slice none 0 0), I 0], rdO b1 g.2.1, .cells [I n, .own 5, .own 6, I r], .cells [I (n + 1), .own 7, .own 8, I r2], .iarr c, .iarr k, .iarr c2, .iarr k2, .iarr g.2.2] Fs)
      (fun g => g.1 ≤ s.length ∧ o2 ≤ g.2.1 ∧ g.2.1 ≤ o2 + g.1 ∧ g.2.2.length = s.length) (fun g => s.length - g.1) (0, o2, s) [0, 1, 2, 6, 10, 3, 4, 7, 8, 5] ⟨by simp, by simp, by simp, rfl⟩ ?_ ?_
    · repeat' (first
        | ((conv => whnf); (first
          | refine brK_dec (fun _ => ?_) (fun _ => ?_)
          | refine brK_ndec (fun _ => ?_) (fun _ => ?_)
          | refine brK_not (fun _ => ?_) (fun _ => ?_)
          | refine brK_in (fun _ => ?_) (fun _ => ?_)
          | refine And.intro (by first | exact rfl | exact ⟨_, rfl, rfl⟩ | exact ⟨rfl, rfl, rfl⟩ | exact of_decide_eq_true rfl | exact trivial | assumption | omega | (show (_ ≤ _ ∧ _ ≤ _); omega) | (simp; omega) | exact ⟨by first | omega | (simp; omega), _, rfl, rfl⟩) ?_
          | refine Both.mk ?_ ?_
          | refine Exists.intro _ (And.intro rfl ?_)
          | refine fun _ => ?_))
        | exact rfl)
    rintro ⟨i, o3, l⟩ ⟨hi, ho1, ho2, hl⟩
    dsimp only at hi ho1 ho2 hl ⊢
    repeat' (first
      | ((conv => whnf); (first
        | refine brK_dec (fun _ => ?_) (fun _ => ?_)
        | refine brK_ndec (fun _ => ?_) (fun _ => ?_)
        | refine brK_not (fun _ => ?_) (fun _ => ?_)
        | refine brK_in (fun _ => ?_) (fun _ => ?_)
        | refine And.intro (by first | exact rfl | exact ⟨_, rfl, rfl⟩ | exact ⟨rfl, rfl, rfl⟩ | exact of_decide_eq_true rfl | exact trivial | assumption | omega | (show (_ ≤ _ ∧ _ ≤ _); omega) | (simp; omega) | exact ⟨by first | omega | (simp; omega), _, rfl, rfl⟩) ?_
        | refine Both.mk ?_ ?_
        | refine Exists.intro _ (And.intro rfl ?_)
        | refine fun _ => ?_))
      | exact rfl)
    · rename_i hil x hx0 hx1 hx
      refine ⟨(i + 1, o3 + 1, l.set i 0), [0, 1, 2, 3, 4, 5, 6, 7, 8, 9], ⟨by dsimp only; omega, by dsimp only; omega, by dsimp only; omega, by dsimp only; simp; omega⟩, by dsimp only; omega, ?_⟩
      repeat' (first
        | ((conv => whnf); (first
          | refine brK_dec (fun _ => ?_) (fun _ => ?_)
          | refine brK_ndec (fun _ => ?_) (fun _ => ?_)
          | refine brK_not (fun _ => ?_) (fun _ => ?_)
          | refine brK_in (fun _ => ?_) (fun _ => ?_)
          | refine And.intro (by first | exact rfl | exact ⟨_, rfl, rfl⟩ | exact ⟨rfl, rfl, rfl⟩ | exact of_decide_eq_true rfl | exact trivial | assumption | omega | (show (_ ≤ _ ∧ _ ≤ _); omega) | (simp; omega) | exact ⟨by first | omega | (simp; omega), _, rfl, rfl⟩) ?_
          | refine Both.mk ?_ ?_
          | refine Exists.intro _ (And.intro rfl ?_)
          | refine fun _ => ?_))
        | exact rfl)
    · rename_i hil x hx0 hx1 hx
      refine ⟨(i + 1, o3 + 1, l), [0, 1, 2, 3, 4, 5, 6, 7, 8, 9], ⟨by dsimp only; omega, by dsimp only; omega, by dsimp only; omega, by dsimp only; omega⟩, by dsimp only; omega, ?_⟩
      repeat' (first
        | ((conv => whnf); (first
          | refine brK_dec (fun _ => ?_) (fun _ => ?_)
          | refine brK_ndec (fun _ => ?_) (fun _ => ?_)
          | refine brK_not (fun _ => ?_) (fun _ => ?_)
          | refine brK_in (fun _ => ?_) (fun _ => ?_)
          | refine And.intro (by first | exact rfl | exact ⟨_, rfl, rfl⟩ | exact ⟨rfl, rfl, rfl⟩ | exact of_decide_eq_true rfl | exact trivial | assumption | omega | (show (_ ≤ _ ∧ _ ≤ _); omega) | (simp; omega) | exact ⟨by first | omega | (simp; omega), _, rfl, rfl⟩) ?_
          | refine Both.mk ?_ ?_
          | refine Exists.intro _ (And.intro rfl ?_)
          | refine fun _ => ?_))
        | exact rfl)
    · rename_i hil x x0 x1 hx o4 n' c' k' r' w1 w2 w3 w4
      (conv => whnf)
      refine ⟨(⟨n, c, k, r⟩, ⟨n', c', k', r'⟩, l), [0, 1, 3, 4, 5, 6, 10, 11, 9], ⟨by dsimp only; omega, by dsimp only; omega, by dsimp only; omega, by dsimp only; omega, by dsimp only; first | omega | (simp; omega)⟩, ?_⟩
      repeat' (first
        | ((conv => whnf); (first
          | refine brK_dec (fun _ => ?_) (fun _ => ?_)
          | refine brK_ndec (fun _ => ?_) (fun _ => ?_)
          | refine brK_not (fun _ => ?_) (fun _ => ?_)
          | refine brK_in (fun _ => ?_) (fun _ => ?_)
          | refine And.intro (by first | exact rfl | exact ⟨_, rfl, rfl⟩ | exact ⟨rfl, rfl, rfl⟩ | exact of_decide_eq_true rfl | exact trivial | assumption | omega | (show (_ ≤ _ ∧ _ ≤ _); omega) | (simp; omega) | exact ⟨by first | omega | (simp; omega), _, rfl, rfl⟩) ?_
          | refine Both.mk ?_ ?_
          | refine Exists.intro _ (And.intro rfl ?_)
          | refine fun _ => ?_))
        | exact rfl)
    · rename_i hil x x0 x1 hx0 hx o4 n' c' k' r' w1 w2 w3 w4
      (conv => whnf)
      refine ⟨(⟨n', c', k', r'⟩, ⟨n + 1, c2, k2, r2⟩, l), [0, 1, 3, 4, 10, 11, 7, 8, 9], ⟨by dsimp only; omega, by dsimp only; omega, by dsimp only; omega, by dsimp only; omega, by dsimp only; first | omega | (simp; omega)⟩, ?_⟩
      repeat' (first
        | ((conv => whnf); (first
          | refine brK_dec (fun _ => ?_) (fun _ => ?_)
          | refine brK_ndec (fun _ => ?_) (fun _ => ?_)
          | refine brK_not (fun _ => ?_) (fun _ => ?_)
          | refine brK_in (fun _ => ?_) (fun _ => ?_)
          | refine And.intro (by first | exact rfl | exact ⟨_, rfl, rfl⟩ | exact ⟨rfl, rfl, rfl⟩ | exact of_decide_eq_true rfl | exact trivial | assumption | omega | (show (_ ≤ _ ∧ _ ≤ _); omega) | (simp; omega) | exact ⟨by first | omega | (simp; omega), _, rfl, rfl⟩) ?_
          | refine Both.mk ?_ ?_
          | refine Exists.intro _ (And.intro rfl ?_)
          | refine fun _ => ?_))
        | exact rfl)
    · rename_i hil x x0 x1 hx0 hx1 hx m m0 m1 o4 v w1 w2 w3 w4
      (conv => whnf)
      refine ⟨(⟨n, c, k, r⟩, ⟨n + 1, c2, k2, r2⟩, l.set m.toNat v), [0, 1, 3, 4, 5, 6, 7, 8, 9], ⟨by dsimp only; omega, by dsimp only; omega, by dsimp only; omega, by dsimp only; omega, by dsimp only; first | omega | (simp; omega)⟩, ?_⟩
      repeat' (first
        | ((conv => whnf); (first
          | refine brK_dec (fun _ => ?_) (fun _ => ?_)
          | refine brK_ndec (fun _ => ?_) (fun _ => ?_)
          | refine brK_not (fun _ => ?_) (fun _ => ?_)
          | refine brK_in (fun _ => ?_) (fun _ => ?_)
          | refine And.intro (by first | exact rfl | exact ⟨_, rfl, rfl⟩ | exact ⟨rfl, rfl, rfl⟩ | exact of_decide_eq_true rfl | exact trivial | assumption | omega | (show (_ ≤ _ ∧ _ ≤ _); omega) | (simp; omega) | exact ⟨by first | omega | (simp; omega), _, rfl, rfl⟩) ?_
          | refine Both.mk ?_ ?_
          | refine Exists.intro _ (And.intro rfl ?_)
          | refine fun _ => ?_))
        | exact rfl)
    · (conv => whnf)
      refine ⟨(⟨n, c, k, r⟩, ⟨n + 1, c2, k2, r2⟩, List.take l.length l ++ [0]), [0, 1, 3, 4, 5, 6, 7, 8, 9], ⟨by dsimp only; omega, by dsimp only; omega, by dsimp only; omega, by dsimp only; omega, by dsimp only; first | omega | (simp; omega)⟩, ?_⟩
      repeat' (first
        | ((conv => whnf); (first
          | refine brK_dec (fun _ => ?_) (fun _ => ?_)
          | refine brK_ndec (fun _ => ?_) (fun _ => ?_)
          | refine brK_not (fun _ => ?_) (fun _ => ?_)
          | refine brK_in (fun _ => ?_) (fun _ => ?_)
          | refine And.intro (by first | exact rfl | exact ⟨_, rfl, rfl⟩ | exact ⟨rfl, rfl, rfl⟩ | exact of_decide_eq_true rfl | exact trivial | assumption | omega | (show (_ ≤ _ ∧ _ ≤ _); omega) | (simp; omega) | exact ⟨by first | omega | (simp; omega), _, rfl, rfl⟩) ?_
          | refine Both.mk ?_ ?_
          | refine Exists.intro _ (And.intro rfl ?_)
          | refine fun _ => ?_))
        | exact rfl)
    · (conv => whnf)
      refine ⟨(⟨n, c, k, r⟩, ⟨n + 1, c2, k2, r2⟩, l), [0, 1, 3, 4, 5, 6, 7, 8, 9], ⟨by dsimp only; omega, by dsimp only; omega, by dsimp only; omega, by dsimp only; omega, by dsimp only; first | omega | (simp; omega)⟩, ?_⟩
      repeat' (first
        | ((conv => whnf); (first
          | refine brK_dec (fun _ => ?_) (fun _ => ?_)
          | refine brK_ndec (fun _ => ?_) (fun _ => ?_)
          | refine brK_not (fun _ => ?_) (fun _ => ?_)
          | refine brK_in (fun _ => ?_) (fun _ => ?_)
          | refine And.intro (by first | exact rfl | exact ⟨_, rfl, rfl⟩ | exact ⟨rfl, rfl, rfl⟩ | exact of_decide_eq_true rfl | exact trivial | assumption | omega | (show (_ ≤ _ ∧ _ ≤ _); omega) | (simp; omega) | exact ⟨by first | omega | (simp; omega), _, rfl, rfl⟩) ?_
          | refine Both.mk ?_ ?_
          | refine Exists.intro _ (And.intro rfl ?_)
          | refine fun _ => ?_))
        | exact rfl)
  · rintro ⟨⟨n, c, k, r⟩, ⟨n2, c2, k2, r2⟩, s⟩ ⟨q1, q2, q3, q4, q5⟩
    dsimp only at q1 q2 q3 q4 q5 ⊢
    repeat' (first
      | ((conv => whnf); (first
        | refine draw_plan (id := 18) [0,1] [] (.take 0 (.take 1 (.take 2 (.run 3 (.run 4 (.take 5 .done)))))) (by kernel_rfl) (by kernel_rfl) ?_
        | refine brK_dec (fun _ => ?_) (fun _ => ?_)
        | refine brK_ndec (fun _ => ?_) (fun _ => ?_)
        | refine brK_not (fun _ => ?_) (fun _ => ?_)
        | refine brK_in (fun _ => ?_) (fun _ => ?_)
        | refine And.intro (by first | exact rfl | exact ⟨_, rfl, rfl⟩ | exact ⟨rfl, rfl, rfl⟩ | exact of_decide_eq_true rfl | exact trivial | assumption | omega | (show (_ ≤ _ ∧ _ ≤ _); omega) | (simp; omega) | exact ⟨by first | omega | (simp; omega), _, rfl, rfl⟩) ?_
        | refine Both.mk ?_ ?_
        | refine Exists.intro _ (And.intro rfl ?_)
        | refine fun _ => ?_))
      | exact rfl)
    all_goals exact h _ _ _ _ _ _ _ _ _ q1 q2 q3 q4 q5
end Go.Proofs.YtbpnfmpbaohklaaDoor
