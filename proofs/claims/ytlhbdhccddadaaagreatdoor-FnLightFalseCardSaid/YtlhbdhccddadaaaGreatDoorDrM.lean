/-
Drawn receipts with a proof, and drawn chains that a reader of receipts follows.
No conditions.
-/
import Derived.Test.YtlhbdhccddadaaaGreatDoorDrR
namespace Go.Proofs.YtlhbdhccddadaaaGreatDoor
open Go Go.Vc
set_option maxHeartbeats 4000000
set_option maxRecDepth 10000
def c_spec_l92Proof : Con := ⟨1, 1, true, fun xs hs _ K => match xs, hs with
  | [.ptr 0 0], [.cells [.bytes b, .val (.int .i64 off)]] => b.length ≤ 2000 ∧ 0 ≤ off ∧ off ≤ 700000 ∧ ∀ off' (rs : List (Int × Bool × Int)) i d g (p : List Int), off ≤ off' → off' ≤ off + 300 → rs.length ≤ 10 → p.length ≤ 31 →
      K (.tup [.sl 3 (rs.map rcRow), .agg [I i, B d, I g], .own 1]) [rdO b off', .iarr p] []
  | _, _ => False⟩
theorem k_spec_l92Proof : Keeps' Tryz.prog 32 c_spec_l92Proof := by
  refine keeps_of_cut (r := 16) mix TyT_ok (cok_cons k_spec_l92Receipts Tryz.func67 rfl rfl (cok_cons k_spec_l6Rd_pick Tryz.func33 rfl rfl (cok_cons k_spec_ReceiptProof Tryz.func68 rfl rfl (cok_cons k_spec_l91Digest Tryz.func69 rfl rfl cok_nil)))) Tryz.func32 rfl rfl rfl rfl ?_
  intro aargs hs Fs K h
  simp only [c_spec_l92Proof] at h
  split at h
  case h_2 => exact h.elim
  rename_i b off
  obtain ⟨hb, h0, h1, h⟩ := h
  refine ⟨Int × List (Int × Bool × Int) × (Int × Bool × Int) × List Int, fun g => mkS 58 [(3, .ptr 1 0), (5, .sl 3 (g.2.1.map rcRow)), (7, .ptr 2 0), (8, .own 3)] [rdO b g.1, .cells [I 0, B false, I 0], .cells [I g.2.2.1.1, B g.2.2.1.2.1, I g.2.2.1.2.2], .iarr g.2.2.2] Fs, fun g => off ≤ g.1 ∧ g.1 ≤ off + 300 ∧ g.2.1.length ≤ 10 ∧ g.2.2.2.length ≤ 31, ?_, ?_⟩
  · repeat' (first
      | ((conv => whnf); (first
        | refine draw_plan (id := 16) [] [] (.take 0 (.take 1 (.take 2 (.take 3 (.run 4 (.take 5 .done)))))) (by kernel_rfl) (by kernel_rfl) ?_
        | refine brK_dec (fun _ => ?_) (fun _ => ?_)
        | refine brK_ndec (fun _ => ?_) (fun _ => ?_)
        | refine brK_not (fun _ => ?_) (fun _ => ?_)
        | refine brK_in (fun _ => ?_) (fun _ => ?_)
        | refine And.intro (by first | exact rfl | exact ⟨_, rfl, rfl⟩ | exact ⟨rfl, rfl, rfl⟩ | exact of_decide_eq_true rfl | exact trivial | assumption | omega | (show (_ ≤ _ ∧ _ ≤ _); omega) | (simp; omega) | exact ⟨by first | omega | (simp; omega), _, rfl, rfl⟩) ?_
        | refine Both.mk ?_ ?_
        | refine Exists.intro _ (And.intro rfl ?_)
        | refine fun _ => ?_))
      | exact rfl)
    · rename_i o rs u1 u2 u3 u4
      exact h _ _ _ _ _ _ (by omega) (by omega) u3 (by simp)
    rename_i o rs u1 u2 u3 u4 kk hk0 hk1 e he
    obtain ⟨⟨x, d, y⟩, hx, rfl⟩ := rc_at he
    have hlen : (rs.map rcRow).length = rs.length := by simp
    repeat' (first
      | ((conv => whnf); (first
        | refine draw_plan (id := 16) [] [] (.take 0 (.take 1 (.take 2 (.take 3 (.run 4 (.take 5 .done)))))) (by kernel_rfl) (by kernel_rfl) ?_
        | refine brK_dec (fun _ => ?_) (fun _ => ?_)
        | refine brK_ndec (fun _ => ?_) (fun _ => ?_)
        | refine brK_not (fun _ => ?_) (fun _ => ?_)
        | refine brK_in (fun _ => ?_) (fun _ => ?_)
        | refine And.intro (by first | exact rfl | exact ⟨_, rfl, rfl⟩ | exact ⟨rfl, rfl, rfl⟩ | exact of_decide_eq_true rfl | exact trivial | assumption | omega | (show (_ ≤ _ ∧ _ ≤ _); omega) | (simp; omega) | exact ⟨by first | omega | (simp; omega), _, rfl, rfl⟩) ?_
        | refine Both.mk ?_ ?_
        | refine Exists.intro _ (And.intro rfl ?_)
        | refine fun _ => ?_))
      | exact rfl)
    · rename_i p hp z hz0 hz1 hz
      (conv => whnf)
      refine ⟨(o + 1 + 1, rs, (x, !d, y), p), [0, 1, 2, 3], ⟨by dsimp only; omega, by dsimp only; omega, u3, by dsimp only; omega⟩, ?_⟩
      repeat' (first
        | ((conv => whnf); (first
          | refine brK_dec (fun _ => ?_) (fun _ => ?_)
          | refine brK_ndec (fun _ => ?_) (fun _ => ?_)
          | refine brK_not (fun _ => ?_) (fun _ => ?_)
          | refine brK_in (fun _ => ?_) (fun _ => ?_)
          | refine And.intro (by first | exact rfl | exact ⟨_, rfl, rfl⟩ | exact ⟨rfl, rfl, rfl⟩ | exact of_decide_eq_true rfl | exact trivial | assumption | omega | (show (_ ≤ _ ∧ _ ≤ _); omega) | (simp; omega) | exact ⟨by first | omega | (simp; omega), _, rfl, rfl⟩) ?_
          | refine Both.mk ?_ ?_
          | refine Exists.intro _ (And.intro rfl ?_)
          | refine fun _ => ?_))
        | exact rfl)
    · rename_i p hp z hz0 hz1 hz hz2 v hv0 hv1
      (conv => whnf)
      refine ⟨(o + 1 + 1 + 1, rs, (v, d, y), p), [0, 1, 2, 3], ⟨by dsimp only; omega, by dsimp only; omega, u3, by dsimp only; omega⟩, ?_⟩
      repeat' (first
        | ((conv => whnf); (first
          | refine brK_dec (fun _ => ?_) (fun _ => ?_)
          | refine brK_ndec (fun _ => ?_) (fun _ => ?_)
          | refine brK_not (fun _ => ?_) (fun _ => ?_)
          | refine brK_in (fun _ => ?_) (fun _ => ?_)
          | refine And.intro (by first | exact rfl | exact ⟨_, rfl, rfl⟩ | exact ⟨rfl, rfl, rfl⟩ | exact of_decide_eq_true rfl | exact trivial | assumption | omega | (show (_ ≤ _ ∧ _ ≤ _); omega) | (simp; omega) | exact ⟨by first | omega | (simp; omega), _, rfl, rfl⟩) ?_
          | refine Both.mk ?_ ?_
          | refine Exists.intro _ (And.intro rfl ?_)
          | refine fun _ => ?_))
        | exact rfl)
    · rename_i p hp z hz0 hz1 hz hz2 hz3 o3 v hv0 hv1 hv2 hv3
      (conv => whnf)
      refine ⟨(o3, rs, (x, d, v), p), [0, 1, 2, 3], ⟨by dsimp only; omega, by dsimp only; omega, u3, by dsimp only; omega⟩, ?_⟩
      repeat' (first
        | ((conv => whnf); (first
          | refine brK_dec (fun _ => ?_) (fun _ => ?_)
          | refine brK_ndec (fun _ => ?_) (fun _ => ?_)
          | refine brK_not (fun _ => ?_) (fun _ => ?_)
          | refine brK_in (fun _ => ?_) (fun _ => ?_)
          | refine And.intro (by first | exact rfl | exact ⟨_, rfl, rfl⟩ | exact ⟨rfl, rfl, rfl⟩ | exact of_decide_eq_true rfl | exact trivial | assumption | omega | (show (_ ≤ _ ∧ _ ≤ _); omega) | (simp; omega) | exact ⟨by first | omega | (simp; omega), _, rfl, rfl⟩) ?_
          | refine Both.mk ?_ ?_
          | refine Exists.intro _ (And.intro rfl ?_)
          | refine fun _ => ?_))
        | exact rfl)
    · rename_i p hp z hz0 hz1 hz hz2 hz3 hz4 o3 v hv0 hv1 hv2 hv3
      (conv => whnf)
      refine ⟨(o3, rs, (x, d, y), List.take (List.take ([] : List Int).length [] ++ p).length (List.take ([] : List Int).length [] ++ p) ++ [v]), [0, 1, 2, 4], ⟨by dsimp only; omega, by dsimp only; omega, u3, by dsimp only; simp; omega⟩, ?_⟩
      repeat' (first
        | ((conv => whnf); (first
          | refine brK_dec (fun _ => ?_) (fun _ => ?_)
          | refine brK_ndec (fun _ => ?_) (fun _ => ?_)
          | refine brK_not (fun _ => ?_) (fun _ => ?_)
          | refine brK_in (fun _ => ?_) (fun _ => ?_)
          | refine And.intro (by first | exact rfl | exact ⟨_, rfl, rfl⟩ | exact ⟨rfl, rfl, rfl⟩ | exact of_decide_eq_true rfl | exact trivial | assumption | omega | (show (_ ≤ _ ∧ _ ≤ _); omega) | (simp; omega) | exact ⟨by first | omega | (simp; omega), _, rfl, rfl⟩) ?_
          | refine Both.mk ?_ ?_
          | refine Exists.intro _ (And.intro rfl ?_)
          | refine fun _ => ?_))
        | exact rfl)
    · rename_i p hp z hz0 hz1 hz hz2 hz3 hz4
      (conv => whnf)
      refine ⟨(o + 1 + 1, rs, (x, d, y), p), [0, 1, 2, 3], ⟨by dsimp only; omega, by dsimp only; omega, u3, by dsimp only; omega⟩, ?_⟩
      repeat' (first
        | ((conv => whnf); (first
          | refine brK_dec (fun _ => ?_) (fun _ => ?_)
          | refine brK_ndec (fun _ => ?_) (fun _ => ?_)
          | refine brK_not (fun _ => ?_) (fun _ => ?_)
          | refine brK_in (fun _ => ?_) (fun _ => ?_)
          | refine And.intro (by first | exact rfl | exact ⟨_, rfl, rfl⟩ | exact ⟨rfl, rfl, rfl⟩ | exact of_decide_eq_true rfl | exact trivial | assumption | omega | (show (_ ≤ _ ∧ _ ≤ _); omega) | (simp; omega) | exact ⟨by first | omega | (simp; omega), _, rfl, rfl⟩) ?_
          | refine Both.mk ?_ ?_
          | refine Exists.intro _ (And.intro rfl ?_)
          | refine fun _ => ?_))
        | exact rfl)
  · rintro ⟨o, rs, ⟨i, d, g⟩, p⟩ ⟨q1, q2, q3, q4⟩
    dsimp only at q1 q2 q3 q4 ⊢
    repeat' (first
      | ((conv => whnf); (first
        | refine draw_plan (id := 16) [1] [] (.take 0 (.take 1 (.take 2 (.take 3 (.run 4 (.take 5 .done)))))) (by kernel_rfl) (by kernel_rfl) ?_
        | refine brK_dec (fun _ => ?_) (fun _ => ?_)
        | refine brK_ndec (fun _ => ?_) (fun _ => ?_)
        | refine brK_not (fun _ => ?_) (fun _ => ?_)
        | refine brK_in (fun _ => ?_) (fun _ => ?_)
        | refine And.intro (by first | exact rfl | exact ⟨_, rfl, rfl⟩ | exact ⟨rfl, rfl, rfl⟩ | exact of_decide_eq_true rfl | exact trivial | assumption | omega | (show (_ ≤ _ ∧ _ ≤ _); omega) | (simp; omega) | exact ⟨by first | omega | (simp; omega), _, rfl, rfl⟩) ?_
        | refine Both.mk ?_ ?_
        | refine Exists.intro _ (And.intro rfl ?_)
        | refine fun _ => ?_))
      | exact rfl)
    all_goals exact h _ _ _ _ _ _ q1 q2 q3 q4
end Go.Proofs.YtlhbdhccddadaaaGreatDoor
