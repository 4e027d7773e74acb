/-
Drawn next epochs.
No conditions.
-/
import Derived.Test.YtlhbdhccddadaaaGreatDoorDrD
import Derived.Test.YtlhbdhccddadaaaGreatDoorLkA
import Derived.Test.YtlhbdhccddadaaaGreatDoorVcCut
namespace Go.Proofs.YtlhbdhccddadaaaGreatDoor
open Go Go.Vc
set_option maxHeartbeats 4000000
set_option maxRecDepth 10000
def rmL (l : List Int) (m : Int) : List Int :=
  List.take (List.take ([] : List Int).length [] ++ List.take (m.toNat - 0) (List.drop 0 l)).length (List.take ([] : List Int).length [] ++ List.take (m.toNat - 0) (List.drop 0 l)) ++ List.take (l.length - (m + 1).toNat) (List.drop (m + 1).toNat l)
theorem rmL_len {l : List Int} {m : Int} (h0 : 0 ≤ m) (h1 : m < l.length) : (rmL l m).length = l.length - 1 := by
  unfold rmL
  simp
  omega
def c_spec_l92Next : Con := ⟨3, 1, false, fun xs hs _ K => match xs, hs with
  | [.ptr 0 0, .agg [.val (.int .i64 n), .ints c, .ints k, .val (.int .i64 _)], .ints s], [.cells [.bytes b, .val (.int .i64 off)]] =>
    b.length ≤ 2000 ∧ 0 ≤ off ∧ off ≤ 900000 ∧ -1000 ≤ n ∧ n ≤ 1000 ∧ 1 ≤ c.length ∧ c.length ≤ 20 ∧ k.length = c.length ∧ s.length = c.length ∧
      ∀ off' c' k' r' s', off ≤ off' → off' ≤ off + 20 → 1 ≤ c'.length → c'.length ≤ 20 → k'.length = c'.length → s'.length = c'.length → K (.tup [.agg [I (n + 1), .own 1, .own 2, I r'], .own 3]) [rdO b off', .iarr c', .iarr k', .iarr s'] []
  | _, _ => False⟩
theorem k_spec_l92Next : Keeps' Tryz.prog 34 c_spec_l92Next := by
  refine keeps_of_cut (r := 10) mix TyT_ok (cok_cons k_spec_l41Copy Tryz.func70 rfl rfl (cok_cons k_spec_l6Rd_pick Tryz.func33 rfl rfl (cok_cons k_spec_l1Has Tryz.func71 rfl rfl (cok_cons k_spec_KeyPublic Tryz.func72 rfl rfl cok_nil)))) Tryz.func34 rfl rfl rfl rfl ?_
  intro aargs hs Fs K h
  simp only [c_spec_l92Next] at h
  split at h
  case h_2 => exact h.elim
  rename_i n c k r s b off
  obtain ⟨hb, h0, h1, hn0, hn1, hc0, hc1, hk, hs, h⟩ := h
  have hl : (List.take ([] : List Int).length [] ++ s).length = c.length := by simpa using hs
  refine ⟨Int × List Int × List Int × Int × List Int, fun g => mkS 114 [(0, .ptr 0 0), (6, .ptr 1 0), (7, .val (.slice none 0 0)), (8, .ptr 2 0), (9, .own 5)] [rdO b g.1, .cells [I 0, .val (.slice none 0 0), .val (.slice none 0 0), I 0], .cells [I (n + 1), .own 3, .own 4, I g.2.2.2.1], .iarr g.2.1, .iarr g.2.2.1, .iarr g.2.2.2.2] Fs,
    fun g => off ≤ g.1 ∧ g.1 ≤ off + 5 ∧ 1 ≤ g.2.1.length ∧ g.2.1.length ≤ 20 ∧ g.2.2.1.length = g.2.1.length ∧ g.2.2.2.2.length = g.2.1.length, ?_, ?_⟩
  · repeat' (first
      | ((conv => whnf); (first
        | refine draw_plan (id := 7) [] [13] (.take 1 (.take 2 (.take 3 (.take 4 (.take 6 (.take 7 (.take 8 (.take 9 (.take 10 (.run 0 (.run 5 (.run 11 (.take 12 (.run 13 .done)))))))))))))) (by kernel_rfl) (by kernel_rfl) ?_
        | refine draw_plan (id := 8) [] [13] (.take 1 (.take 2 (.take 3 (.take 4 (.take 6 (.take 7 (.take 8 (.take 9 (.take 10 (.run 0 (.run 5 (.run 11 (.take 12 (.run 13 .done)))))))))))))) (by kernel_rfl) (by kernel_rfl) ?_
        | refine draw_plan (id := 9) [] [] (.take 1 (.take 2 (.take 3 (.take 5 (.take 6 (.take 7 (.take 8 (.run 0 (.run 4 (.run 9 (.take 10 .done))))))))))) (by kernel_rfl) (by kernel_rfl) ?_
        | refine draw_plan (id := 12) [] [] (.take 0 (.take 1 (.take 2 (.run 3 (.run 4 (.take 5 .done)))))) (by kernel_rfl) (by kernel_rfl) ?_
        | refine draw_plan (id := 13) [] [8] (.take 0 (.take 1 (.take 2 (.run 3 (.take 4 (.run 5 (.run 6 (.take 7 (.run 8 .done))))))))) (by kernel_rfl) (by kernel_rfl) ?_
        | refine draw_plan (id := 14) [] [7] (.take 0 (.take 1 (.take 2 (.run 3 (.run 4 (.run 5 (.take 6 (.run 7 .done)))))))) (by kernel_rfl) (by kernel_rfl) ?_
        | refine brK_dec (fun _ => ?_) (fun _ => ?_)
        | refine brK_ndec (fun _ => ?_) (fun _ => ?_)
        | refine brK_not (fun _ => ?_) (fun _ => ?_)
        | refine brK_in (fun _ => ?_) (fun _ => ?_)
        | refine And.intro (by first | exact rfl | exact ⟨_, rfl, rfl⟩ | exact ⟨rfl, rfl, rfl⟩ | exact of_decide_eq_true rfl | exact trivial | assumption | omega | (show (_ ≤ _ ∧ _ ≤ _); omega) | (simp; omega) | exact ⟨by first | omega | (simp; omega), _, rfl, rfl⟩) ?_
        | refine Both.mk ?_ ?_
        | refine Exists.intro _ (And.intro rfl ?_)
        | refine fun _ => ?_))
      | exact rfl)
    · rename_i x hx0 hx1 y hy0 hy1 hlen z hz0 hz1 hz m hm0 hm1
      have e1 := rmL_len (l := c) hm0 (by omega)
      have e2 := rmL_len (l := k) hm0 (by omega)
      have e3 := rmL_len (l := List.take ([] : List Int).length [] ++ s) hm0 (by omega)
      (conv => whnf)
      refine ⟨(off + 1 + 1 + 1 + 1, rmL c m, rmL k m, 10 * x + y, rmL (List.take ([] : List Int).length [] ++ s) m), [0, 2, 5, 7, 8, 9], ⟨by dsimp only; omega, by dsimp only; omega, by dsimp only; omega, by dsimp only; omega, by dsimp only; omega, by dsimp only; omega⟩, ?_⟩
      repeat' (first
        | ((conv => whnf); (first
          | refine brK_dec (fun _ => ?_) (fun _ => ?_)
          | refine brK_ndec (fun _ => ?_) (fun _ => ?_)
          | refine brK_not (fun _ => ?_) (fun _ => ?_)
          | refine brK_in (fun _ => ?_) (fun _ => ?_)
          | refine And.intro (by first | exact rfl | exact ⟨_, rfl, rfl⟩ | exact ⟨rfl, rfl, rfl⟩ | exact of_decide_eq_true rfl | exact trivial | assumption | omega | (show (_ ≤ _ ∧ _ ≤ _); omega) | (simp; omega) | exact ⟨by first | omega | (simp; omega), _, rfl, rfl⟩) ?_
          | refine Both.mk ?_ ?_
          | refine Exists.intro _ (And.intro rfl ?_)
          | refine fun _ => ?_))
        | exact rfl)
    · rename_i x hx0 hx1 y hy0 hy1 hlen z hz0 hz1 hz
      (conv => whnf)
      refine ⟨(off + 1 + 1 + 1, c, k, 10 * x + y, List.take ([] : List Int).length [] ++ s), [0, 2, 5, 3, 4, 6], ⟨by dsimp only; omega, by dsimp only; omega, by dsimp only; omega, by dsimp only; omega, by dsimp only; omega, by dsimp only; omega⟩, ?_⟩
      repeat' (first
        | ((conv => whnf); (first
          | refine brK_dec (fun _ => ?_) (fun _ => ?_)
          | refine brK_ndec (fun _ => ?_) (fun _ => ?_)
          | refine brK_not (fun _ => ?_) (fun _ => ?_)
          | refine brK_in (fun _ => ?_) (fun _ => ?_)
          | refine And.intro (by first | exact rfl | exact ⟨_, rfl, rfl⟩ | exact ⟨rfl, rfl, rfl⟩ | exact of_decide_eq_true rfl | exact trivial | assumption | omega | (show (_ ≤ _ ∧ _ ≤ _); omega) | (simp; omega) | exact ⟨by first | omega | (simp; omega), _, rfl, rfl⟩) ?_
          | refine Both.mk ?_ ?_
          | refine Exists.intro _ (And.intro rfl ?_)
          | refine fun _ => ?_))
        | exact rfl)
    · rename_i x hx0 hx1 y hy0 hy1 hlen
      (conv => whnf)
      refine ⟨(off + 1 + 1, c, k, 10 * x + y, List.take ([] : List Int).length [] ++ s), [0, 2, 5, 3, 4, 6], ⟨by dsimp only; omega, by dsimp only; omega, by dsimp only; omega, by dsimp only; omega, by dsimp only; omega, by dsimp only; omega⟩, ?_⟩
      repeat' (first
        | ((conv => whnf); (first
          | refine brK_dec (fun _ => ?_) (fun _ => ?_)
          | refine brK_ndec (fun _ => ?_) (fun _ => ?_)
          | refine brK_not (fun _ => ?_) (fun _ => ?_)
          | refine brK_in (fun _ => ?_) (fun _ => ?_)
          | refine And.intro (by first | exact rfl | exact ⟨_, rfl, rfl⟩ | exact ⟨rfl, rfl, rfl⟩ | exact of_decide_eq_true rfl | exact trivial | assumption | omega | (show (_ ≤ _ ∧ _ ≤ _); omega) | (simp; omega) | exact ⟨by first | omega | (simp; omega), _, rfl, rfl⟩) ?_
          | refine Both.mk ?_ ?_
          | refine Exists.intro _ (And.intro rfl ?_)
          | refine fun _ => ?_))
        | exact rfl)
  · rintro ⟨o, c', k', r', s'⟩ ⟨q1, q2, q3, q4, q5, q6⟩
    dsimp only at q1 q2 q3 q4 q5 q6 ⊢
    repeat' (first
      | ((conv => whnf); (first
        | refine draw_plan (id := 7) [] [13] (.take 1 (.take 2 (.take 3 (.take 4 (.take 6 (.take 7 (.take 8 (.take 9 (.take 10 (.run 0 (.run 5 (.run 11 (.take 12 (.run 13 .done)))))))))))))) (by kernel_rfl) (by kernel_rfl) ?_
        | refine draw_plan (id := 8) [] [13] (.take 1 (.take 2 (.take 3 (.take 4 (.take 6 (.take 7 (.take 8 (.take 9 (.take 10 (.run 0 (.run 5 (.run 11 (.take 12 (.run 13 .done)))))))))))))) (by kernel_rfl) (by kernel_rfl) ?_
        | refine draw_plan (id := 9) [] [] (.take 1 (.take 2 (.take 3 (.take 5 (.take 6 (.take 7 (.take 8 (.run 0 (.run 4 (.run 9 (.take 10 .done))))))))))) (by kernel_rfl) (by kernel_rfl) ?_
        | refine draw_plan (id := 12) [] [] (.take 0 (.take 1 (.take 2 (.run 3 (.run 4 (.take 5 .done)))))) (by kernel_rfl) (by kernel_rfl) ?_
        | refine draw_plan (id := 13) [0,3] [8] (.take 0 (.take 1 (.take 2 (.run 3 (.take 4 (.run 5 (.run 6 (.take 7 (.run 8 .done))))))))) (by kernel_rfl) (by kernel_rfl) ?_
        | refine draw_plan (id := 14) [0,4] [7] (.take 0 (.take 1 (.take 2 (.run 3 (.run 4 (.run 5 (.take 6 (.run 7 .done)))))))) (by kernel_rfl) (by kernel_rfl) ?_
        | refine brK_dec (fun _ => ?_) (fun _ => ?_)
        | refine brK_ndec (fun _ => ?_) (fun _ => ?_)
        | refine brK_not (fun _ => ?_) (fun _ => ?_)
        | refine brK_in (fun _ => ?_) (fun _ => ?_)
        | refine And.intro (by first | exact rfl | exact ⟨_, rfl, rfl⟩ | exact ⟨rfl, rfl, rfl⟩ | exact of_decide_eq_true rfl | exact trivial | assumption | omega | (show (_ ≤ _ ∧ _ ≤ _); omega) | (simp; omega) | exact ⟨by first | omega | (simp; omega), _, rfl, rfl⟩) ?_
        | refine Both.mk ?_ ?_
        | refine Exists.intro _ (And.intro rfl ?_)
        | refine fun _ => ?_))
      | exact rfl)
    all_goals first
      | exact h _ _ _ _ _ (by omega) (by omega) (by first | omega | (simp; omega)) (by first | omega | (simp; omega)) (by first | omega | (simp; omega)) (by first | omega | (simp; omega))
      | exact h _ _ _ _ _ (by omega) (by omega) (by simp only [List.length_append, List.length_take, List.length_singleton]; omega) (by simp only [List.length_append, List.length_take, List.length_singleton]; omega) (by simp only [List.length_append, List.length_take, List.length_singleton]; omega) (by simp only [List.length_append, List.length_take, List.length_singleton]; omega)
end Go.Proofs.YtlhbdhccddadaaaGreatDoor
