/-
The drawn epoch and links of the laws on forks.
No conditions.
-/
import Derived.Test.YtbpnfmpbaohklaaDoorDrH
import Derived.Test.YtbpnfmpbaohklaaDoorChB
namespace Go.Proofs.YtbpnfmpbaohklaaDoor
open Go Go.Vc
set_option maxHeartbeats 4000000
set_option maxRecDepth 10000
def c_spec_DrawLightFork : Con := ⟨0, 0, true, fun xs hs _ K => match xs with
  | [.bytes b] => hs = [] ∧ b.length ≤ 1048576 ∧ ∀ (e : EpD) (x y : LkD), e.c.length ≤ 30 → e.k.length ≤ 30 → x.fits → y.fits →
    K (.tup [.agg [I e.n, .ints e.c, .ints e.k, I e.r], .agg [I x.e.n, .ints x.e.c, .ints x.e.k, I x.e.r, I x.d, .ints x.s, I x.m], .agg [I y.e.n, .ints y.e.c, .ints y.e.k, I y.e.r, I y.d, .ints y.s, I y.m]]) [] []
  | _ => False⟩
theorem k_spec_DrawLightFork : Keeps' Tryd.prog 31 c_spec_DrawLightFork := by
  refine keeps_of_cut (r := 9) mix TyT_ok (cok_cons k_spec_l6Open Tryd.func68 rfl rfl (cok_cons k_spec_l92Epoch Tryd.func69 rfl rfl (cok_cons k_spec_l92Next Tryd.func70 rfl rfl (cok_cons k_spec_l6Rd_pick Tryd.func71 rfl rfl (cok_cons k_spec_l92Link Tryd.func72 rfl rfl cok_nil))))) Tryd.func31 rfl rfl rfl rfl ?_
  intro aargs hs Fs K h
  simp only [c_spec_DrawLightFork] at h
  split at h
  case h_2 => exact h.elim
  rename_i b
  obtain ⟨rfl, hb, h⟩ := h
  refine ⟨EpD × List UInt8 × Int × LkD × LkD, fun g => mkS 67 [(2, .ptr 0 0), (3, .ptr 1 0), (4, .ptr 2 0), (5, .ptr 3 0), (6, .ptr 4 0), (12, .ptr 5 0), (14, .ptr 6 0)]
    [.cells [I 0, .val (.slice none 0 0), .val (.slice none 0 0), I 0], .cells [I 0, .val (.slice none 0 0), .val (.slice none 0 0), I 0, I 0, .val (.slice none 0 0), I 0], .cells [I 0, .val (.slice none 0 0), .val (.slice none 0 0), I 0, I 0, .val (.slice none 0 0), I 0],
     rdO g.2.1 g.2.2.1, .cells [I g.1.n, .ints g.1.c, .ints g.1.k, I g.1.r],
     .cells [I g.2.2.2.1.e.n, .ints g.2.2.2.1.e.c, .ints g.2.2.2.1.e.k, I g.2.2.2.1.e.r, I g.2.2.2.1.d, .ints g.2.2.2.1.s, I g.2.2.2.1.m],
     .cells [I g.2.2.2.2.e.n, .ints g.2.2.2.2.e.c, .ints g.2.2.2.2.e.k, I g.2.2.2.2.e.r, I g.2.2.2.2.d, .ints g.2.2.2.2.s, I g.2.2.2.2.m]] Fs,
    fun g => g.2.1.length ≤ 2000 ∧ 0 ≤ g.2.2.1 ∧ g.2.2.1 ≤ 1000 ∧ g.1.c.length ≤ 30 ∧ g.1.k.length ≤ 30 ∧ g.2.2.2.1.fits ∧ g.2.2.2.2.fits, ?_, ?_⟩
  · repeat' (first
      | ((conv => whnf); (first
        | refine brK_dec (fun _ => ?_) (fun _ => ?_)
        | refine brK_ndec (fun _ => ?_) (fun _ => ?_)
        | refine brK_not (fun _ => ?_) (fun _ => ?_)
        | refine brK_in (fun _ => ?_) (fun _ => ?_)
        | refine And.intro (by first | exact rfl | exact ⟨_, rfl, rfl⟩ | exact ⟨rfl, rfl, rfl⟩ | exact of_decide_eq_true rfl | exact trivial | assumption | omega | (show (_ ≤ _ ∧ _ ≤ _); omega) | (simp; omega) | exact ⟨by first | omega | (simp; omega), _, rfl, rfl⟩) ?_
        | refine Both.mk ?_ ?_
        | refine Exists.intro _ (And.intro rfl ?_)
        | refine fun _ => ?_))
      | exact rfl)
    · rename_i b1 hb1 o1 n c k r s p1 p2 p3 p4 p5 p6 p7 p8 p9 p10 p11 o2 c2 k2 r2 s2 q1 q2 q3 q4 q5 q6 o3 c3 k3 r3 s3 t1 t2 t3 t4 t5 t6 x x0 x1 hx o4 d4 s4 m4 u1 u2 u3 o5 d5 s5 m5 v1 v2 v3
      (conv => whnf)
      refine ⟨(⟨n, c, k, r⟩, b1, o5, ⟨⟨n + 1, c2, k2, r2⟩, d4, s4, m4⟩, ⟨⟨n + 1, c2, k2, r2⟩, d5, s5, m5⟩), [0, 1, 2, 3, 7, 19, 23], ⟨hb1, by dsimp only; omega, by dsimp only; omega, by dsimp only; omega, by dsimp only; omega, ⟨by dsimp only; omega, by dsimp only; omega, by dsimp only; omega⟩, ⟨by dsimp only; omega, by dsimp only; omega, by dsimp only; omega⟩⟩, ?_⟩
      repeat' (first
        | ((conv => whnf); (first
          | refine brK_dec (fun _ => ?_) (fun _ => ?_)
          | refine brK_ndec (fun _ => ?_) (fun _ => ?_)
          | refine brK_not (fun _ => ?_) (fun _ => ?_)
          | refine brK_in (fun _ => ?_) (fun _ => ?_)
          | refine And.intro (by first | exact rfl | exact ⟨_, rfl, rfl⟩ | exact ⟨rfl, rfl, rfl⟩ | exact of_decide_eq_true rfl | exact trivial | assumption | omega | (show (_ ≤ _ ∧ _ ≤ _); omega) | (simp; omega) | exact ⟨by first | omega | (simp; omega), _, rfl, rfl⟩) ?_
          | refine Both.mk ?_ ?_
          | refine Exists.intro _ (And.intro rfl ?_)
          | refine fun _ => ?_))
        | exact rfl)
    · rename_i b1 hb1 o1 n c k r s p1 p2 p3 p4 p5 p6 p7 p8 p9 p10 p11 o2 c2 k2 r2 s2 q1 q2 q3 q4 q5 q6 o3 c3 k3 r3 s3 t1 t2 t3 t4 t5 t6 x x0 x1 hx o4 d4 s4 m4 u1 u2 u3 o5 v1 v2
      (conv => whnf)
      refine ⟨(⟨n, c, k, r⟩, b1, o5, ⟨⟨n + 1, c2, k2, r2⟩, d4, s4, m4⟩, ⟨⟨0, [], [], 0⟩, 0, [], 0⟩), [0, 1, 2, 3, 7, 19, 20], ⟨hb1, by dsimp only; omega, by dsimp only; omega, by dsimp only; omega, by dsimp only; omega, ⟨by dsimp only; omega, by dsimp only; omega, by dsimp only; omega⟩, ⟨by simp, by simp, by simp⟩⟩, ?_⟩
      repeat' (first
        | ((conv => whnf); (first
          | refine brK_dec (fun _ => ?_) (fun _ => ?_)
          | refine brK_ndec (fun _ => ?_) (fun _ => ?_)
          | refine brK_not (fun _ => ?_) (fun _ => ?_)
          | refine brK_in (fun _ => ?_) (fun _ => ?_)
          | refine And.intro (by first | exact rfl | exact ⟨_, rfl, rfl⟩ | exact ⟨rfl, rfl, rfl⟩ | exact of_decide_eq_true rfl | exact trivial | assumption | omega | (show (_ ≤ _ ∧ _ ≤ _); omega) | (simp; omega) | exact ⟨by first | omega | (simp; omega), _, rfl, rfl⟩) ?_
          | refine Both.mk ?_ ?_
          | refine Exists.intro _ (And.intro rfl ?_)
          | refine fun _ => ?_))
        | exact rfl)
    · rename_i b1 hb1 o1 n c k r s p1 p2 p3 p4 p5 p6 p7 p8 p9 p10 p11 o2 c2 k2 r2 s2 q1 q2 q3 q4 q5 q6 o3 c3 k3 r3 s3 t1 t2 t3 t4 t5 t6 x x0 x1 hx o4 u1 u2 o5 d5 s5 m5 v1 v2 v3
      (conv => whnf)
      refine ⟨(⟨n, c, k, r⟩, b1, o5, ⟨⟨0, [], [], 0⟩, 0, [], 0⟩, ⟨⟨n + 1, c2, k2, r2⟩, d5, s5, m5⟩), [0, 1, 2, 3, 7, 16, 20], ⟨hb1, by dsimp only; omega, by dsimp only; omega, by dsimp only; omega, by dsimp only; omega, ⟨by simp, by simp, by simp⟩, ⟨by dsimp only; omega, by dsimp only; omega, by dsimp only; omega⟩⟩, ?_⟩
      repeat' (first
        | ((conv => whnf); (first
          | refine brK_dec (fun _ => ?_) (fun _ => ?_)
          | refine brK_ndec (fun _ => ?_) (fun _ => ?_)
          | refine brK_not (fun _ => ?_) (fun _ => ?_)
          | refine brK_in (fun _ => ?_) (fun _ => ?_)
          | refine And.intro (by first | exact rfl | exact ⟨_, rfl, rfl⟩ | exact ⟨rfl, rfl, rfl⟩ | exact of_decide_eq_true rfl | exact trivial | assumption | omega | (show (_ ≤ _ ∧ _ ≤ _); omega) | (simp; omega) | exact ⟨by first | omega | (simp; omega), _, rfl, rfl⟩) ?_
          | refine Both.mk ?_ ?_
          | refine Exists.intro _ (And.intro rfl ?_)
          | refine fun _ => ?_))
        | exact rfl)
    · rename_i b1 hb1 o1 n c k r s p1 p2 p3 p4 p5 p6 p7 p8 p9 p10 p11 o2 c2 k2 r2 s2 q1 q2 q3 q4 q5 q6 o3 c3 k3 r3 s3 t1 t2 t3 t4 t5 t6 x x0 x1 hx o4 u1 u2 o5 v1 v2
      (conv => whnf)
      refine ⟨(⟨n, c, k, r⟩, b1, o5, ⟨⟨0, [], [], 0⟩, 0, [], 0⟩, ⟨⟨0, [], [], 0⟩, 0, [], 0⟩), [0, 1, 2, 3, 7, 16, 17], ⟨hb1, by dsimp only; omega, by dsimp only; omega, by dsimp only; omega, by dsimp only; omega, ⟨by simp, by simp, by simp⟩, ⟨by simp, by simp, by simp⟩⟩, ?_⟩
      repeat' (first
        | ((conv => whnf); (first
          | refine brK_dec (fun _ => ?_) (fun _ => ?_)
          | refine brK_ndec (fun _ => ?_) (fun _ => ?_)
          | refine brK_not (fun _ => ?_) (fun _ => ?_)
          | refine brK_in (fun _ => ?_) (fun _ => ?_)
          | refine And.intro (by first | exact rfl | exact ⟨_, rfl, rfl⟩ | exact ⟨rfl, rfl, rfl⟩ | exact of_decide_eq_true rfl | exact trivial | assumption | omega | (show (_ ≤ _ ∧ _ ≤ _); omega) | (simp; omega) | exact ⟨by first | omega | (simp; omega), _, rfl, rfl⟩) ?_
          | refine Both.mk ?_ ?_
          | refine Exists.intro _ (And.intro rfl ?_)
          | refine fun _ => ?_))
        | exact rfl)
    · rename_i b1 hb1 o1 n c k r s p1 p2 p3 p4 p5 p6 p7 p8 p9 p10 p11 o2 c2 k2 r2 s2 q1 q2 q3 q4 q5 q6 o3 c3 k3 r3 s3 t1 t2 t3 t4 t5 t6 x x0 x1 hx o4 d4 s4 m4 u1 u2 u3 o5 d5 s5 m5 v1 v2 v3
      (conv => whnf)
      refine ⟨(⟨n, c, k, r⟩, b1, o5, ⟨⟨n + 1, c2, k2, r2⟩, d4, s4, m4⟩, ⟨⟨n + 1, c3, k3, r3⟩, d5, s5, m5⟩), [0, 1, 2, 3, 7, 19, 23], ⟨hb1, by dsimp only; omega, by dsimp only; omega, by dsimp only; omega, by dsimp only; omega, ⟨by dsimp only; omega, by dsimp only; omega, by dsimp only; omega⟩, ⟨by dsimp only; omega, by dsimp only; omega, by dsimp only; omega⟩⟩, ?_⟩
      repeat' (first
        | ((conv => whnf); (first
          | refine brK_dec (fun _ => ?_) (fun _ => ?_)
          | refine brK_ndec (fun _ => ?_) (fun _ => ?_)
          | refine brK_not (fun _ => ?_) (fun _ => ?_)
          | refine brK_in (fun _ => ?_) (fun _ => ?_)
          | refine And.intro (by first | exact rfl | exact ⟨_, rfl, rfl⟩ | exact ⟨rfl, rfl, rfl⟩ | exact of_decide_eq_true rfl | exact trivial | assumption | omega | (show (_ ≤ _ ∧ _ ≤ _); omega) | (simp; omega) | exact ⟨by first | omega | (simp; omega), _, rfl, rfl⟩) ?_
          | refine Both.mk ?_ ?_
          | refine Exists.intro _ (And.intro rfl ?_)
          | refine fun _ => ?_))
        | exact rfl)
    · rename_i b1 hb1 o1 n c k r s p1 p2 p3 p4 p5 p6 p7 p8 p9 p10 p11 o2 c2 k2 r2 s2 q1 q2 q3 q4 q5 q6 o3 c3 k3 r3 s3 t1 t2 t3 t4 t5 t6 x x0 x1 hx o4 d4 s4 m4 u1 u2 u3 o5 v1 v2
      (conv => whnf)
      refine ⟨(⟨n, c, k, r⟩, b1, o5, ⟨⟨n + 1, c2, k2, r2⟩, d4, s4, m4⟩, ⟨⟨0, [], [], 0⟩, 0, [], 0⟩), [0, 1, 2, 3, 7, 19, 20], ⟨hb1, by dsimp only; omega, by dsimp only; omega, by dsimp only; omega, by dsimp only; omega, ⟨by dsimp only; omega, by dsimp only; omega, by dsimp only; omega⟩, ⟨by simp, by simp, by simp⟩⟩, ?_⟩
      repeat' (first
        | ((conv => whnf); (first
          | refine brK_dec (fun _ => ?_) (fun _ => ?_)
          | refine brK_ndec (fun _ => ?_) (fun _ => ?_)
          | refine brK_not (fun _ => ?_) (fun _ => ?_)
          | refine brK_in (fun _ => ?_) (fun _ => ?_)
          | refine And.intro (by first | exact rfl | exact ⟨_, rfl, rfl⟩ | exact ⟨rfl, rfl, rfl⟩ | exact of_decide_eq_true rfl | exact trivial | assumption | omega | (show (_ ≤ _ ∧ _ ≤ _); omega) | (simp; omega) | exact ⟨by first | omega | (simp; omega), _, rfl, rfl⟩) ?_
          | refine Both.mk ?_ ?_
          | refine Exists.intro _ (And.intro rfl ?_)
          | refine fun _ => ?_))
        | exact rfl)
    · rename_i b1 hb1 o1 n c k r s p1 p2 p3 p4 p5 p6 p7 p8 p9 p10 p11 o2 c2 k2 r2 s2 q1 q2 q3 q4 q5 q6 o3 c3 k3 r3 s3 t1 t2 t3 t4 t5 t6 x x0 x1 hx o4 u1 u2 o5 d5 s5 m5 v1 v2 v3
      (conv => whnf)
      refine ⟨(⟨n, c, k, r⟩, b1, o5, ⟨⟨0, [], [], 0⟩, 0, [], 0⟩, ⟨⟨n + 1, c3, k3, r3⟩, d5, s5, m5⟩), [0, 1, 2, 3, 7, 16, 20], ⟨hb1, by dsimp only; omega, by dsimp only; omega, by dsimp only; omega, by dsimp only; omega, ⟨by simp, by simp, by simp⟩, ⟨by dsimp only; omega, by dsimp only; omega, by dsimp only; omega⟩⟩, ?_⟩
      repeat' (first
        | ((conv => whnf); (first
          | refine brK_dec (fun _ => ?_) (fun _ => ?_)
          | refine brK_ndec (fun _ => ?_) (fun _ => ?_)
          | refine brK_not (fun _ => ?_) (fun _ => ?_)
          | refine brK_in (fun _ => ?_) (fun _ => ?_)
          | refine And.intro (by first | exact rfl | exact ⟨_, rfl, rfl⟩ | exact ⟨rfl, rfl, rfl⟩ | exact of_decide_eq_true rfl | exact trivial | assumption | omega | (show (_ ≤ _ ∧ _ ≤ _); omega) | (simp; omega) | exact ⟨by first | omega | (simp; omega), _, rfl, rfl⟩) ?_
          | refine Both.mk ?_ ?_
          | refine Exists.intro _ (And.intro rfl ?_)
          | refine fun _ => ?_))
        | exact rfl)
    · rename_i b1 hb1 o1 n c k r s p1 p2 p3 p4 p5 p6 p7 p8 p9 p10 p11 o2 c2 k2 r2 s2 q1 q2 q3 q4 q5 q6 o3 c3 k3 r3 s3 t1 t2 t3 t4 t5 t6 x x0 x1 hx o4 u1 u2 o5 v1 v2
      (conv => whnf)
      refine ⟨(⟨n, c, k, r⟩, b1, o5, ⟨⟨0, [], [], 0⟩, 0, [], 0⟩, ⟨⟨0, [], [], 0⟩, 0, [], 0⟩), [0, 1, 2, 3, 7, 16, 17], ⟨hb1, by dsimp only; omega, by dsimp only; omega, by dsimp only; omega, by dsimp only; omega, ⟨by simp, by simp, by simp⟩, ⟨by simp, by simp, by simp⟩⟩, ?_⟩
      repeat' (first
        | ((conv => whnf); (first
          | refine brK_dec (fun _ => ?_) (fun _ => ?_)
          | refine brK_ndec (fun _ => ?_) (fun _ => ?_)
          | refine brK_not (fun _ => ?_) (fun _ => ?_)
          | refine brK_in (fun _ => ?_) (fun _ => ?_)
          | refine And.intro (by first | exact rfl | exact ⟨_, rfl, rfl⟩ | exact ⟨rfl, rfl, rfl⟩ | exact of_decide_eq_true rfl | exact trivial | assumption | omega | (show (_ ≤ _ ∧ _ ≤ _); omega) | (simp; omega) | exact ⟨by first | omega | (simp; omega), _, rfl, rfl⟩) ?_
          | refine Both.mk ?_ ?_
          | refine Exists.intro _ (And.intro rfl ?_)
          | refine fun _ => ?_))
        | exact rfl)
  · rintro ⟨⟨n, c, k, r⟩, b', o, ⟨⟨na, ca, ka, ra⟩, da, sa, ma⟩, ⟨⟨nb, cb, kb, rb⟩, db, sb, mb⟩⟩ ⟨q1, q2, q3, q4, q5, q6, q7⟩
    dsimp only at q1 q2 q3 q4 q5 q6 q7 ⊢
    repeat' (first
      | ((conv => whnf); (first
        | refine draw_plan (id := 11) [0,1,2] [5] (.take 0 (.take 1 (.take 2 (.run 3 (.run 4 (.run 5 .done)))))) (by kernel_rfl) (by kernel_rfl) ?_
        | refine brK_dec (fun _ => ?_) (fun _ => ?_)
        | refine brK_ndec (fun _ => ?_) (fun _ => ?_)
        | refine brK_not (fun _ => ?_) (fun _ => ?_)
        | refine brK_in (fun _ => ?_) (fun _ => ?_)
        | refine And.intro (by first | exact rfl | exact ⟨_, rfl, rfl⟩ | exact ⟨rfl, rfl, rfl⟩ | exact of_decide_eq_true rfl | exact trivial | assumption | omega | (show (_ ≤ _ ∧ _ ≤ _); omega) | (simp; omega) | exact ⟨by first | omega | (simp; omega), _, rfl, rfl⟩) ?_
        | refine Both.mk ?_ ?_
        | refine Exists.intro _ (And.intro rfl ?_)
        | refine fun _ => ?_))
      | exact rfl)
    all_goals first
      | exact h ⟨n, c, k, r⟩ ⟨⟨na, ca, ka, ra⟩, da, sa, ma⟩ ⟨⟨nb, cb, kb, rb⟩, db, sb, mb⟩ q4 q5 q6 q7
      | exact h ⟨n, c, k, r⟩ ⟨⟨na, ca, ka, ra⟩, da, sa, ma⟩ ⟨⟨nb, cb, kb, rb⟩, db, sb, _⟩ q4 q5 q6 q7
end Go.Proofs.YtbpnfmpbaohklaaDoor
