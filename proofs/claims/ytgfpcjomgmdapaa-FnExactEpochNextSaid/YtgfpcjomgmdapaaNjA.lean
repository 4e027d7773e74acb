/-
The draw of the laws on the next epoch.
No conditions.
-/
import Derived.Test.YtgfpcjomgmdapaaDrD
import Derived.Test.YtgfpcjomgmdapaaNxB
namespace Go.Proofs.Ytgfpcjomgmdapaa
open Go Go.Vc
set_option maxHeartbeats 2000000
set_option maxRecDepth 10000
theorem rows2_snoc (js : List (Int × Int)) (p : Int × Int) : rows2 (js ++ [p]) = rows2 js ++ [[I p.1, I p.2]] := by simp [rows2]
theorem rows2_ro (js : List (Int × Int)) : ((rows2 js).all fun e => e.all roFreeC) = true := by
  simp [rows2, roFreeC]
theorem ro2 (b : List UInt8) (off : Int) (js : List (Int × Int)) : [rdO b off, AO.arr 2 (rows2 js)].all roFreeB = true := by
  simp only [List.all_cons, List.all_nil, roFreeB, rows2_ro, roFreeC, Bool.and_true]
def c_spec_l92Joins : Con := ⟨1, 1, false, fun xs hs _ K => match xs, hs with
  | [.ptr 0 0], [.cells [.bytes b, .val (.int .i64 off)]] =>
    b.length ≤ 2000 ∧ 0 ≤ off ∧ off ≤ 900000 ∧ ∀ off' js, off ≤ off' → off' ≤ off + 40 → js.length ≤ 4 → K (.own 1) [rdO b off', .arr 2 (rows2 js)] []
  | _, _ => False⟩
theorem k_spec_l92Joins : Keeps' Try.prog 43 c_spec_l92Joins := by
  refine keeps_of_vc mix TyT_ok (cok_cons k_spec_l6Rd_pick Try.func41 rfl rfl (cok_cons k_spec_KeyPublic Try.func62 rfl rfl (cok_cons k_spec_l91Key Try.func61 rfl rfl cok_nil))) Try.func43 rfl rfl rfl ?_
  intro aargs hs Fs K h
  simp only [c_spec_l92Joins] at h
  split at h
  case h_2 => exact h.elim
  rename_i b off
  obtain ⟨hb, h0, h1, h⟩ := h
  repeat' (first
    | ((conv => whnf); (first
      | refine brK_dec (fun _ => ?_) (fun _ => ?_)
      | refine brK_ndec (fun _ => ?_) (fun _ => ?_)
      | refine brK_not (fun _ => ?_) (fun _ => ?_)
      | refine brK_in (fun _ => ?_) (fun _ => ?_)
      | refine And.intro (by first | exact rfl | exact ⟨_, rfl, rfl⟩ | exact ⟨rfl, rfl, rfl⟩ | exact of_decide_eq_true rfl | exact trivial | assumption | omega | (show (_ ≤ _ ∧ _ ≤ _); omega) | (simp; omega) | exact ⟨by first | omega | (simp; omega), _, rfl, rfl⟩) ?_
      | refine Both.mk ?_ ?_
      | refine Exists.intro _ (And.intro rfl ?_)
      | refine fun _ => ?_))
    | exact rfl)
  refine loop_in (ι := Nat × Int × List (Int × Int)) (fun g => mkS 35 [(0, .ptr 0 0), (2, .val (.slice none 0 0)), (3, .own 1), (4, I g.1)] [rdO b g.2.1, .arr 2 (rows2 g.2.2)] Fs)
    (fun g => g.1 ≤ 3 ∧ off ≤ g.2.1 ∧ g.2.1 ≤ off + 6 * g.1 ∧ g.2.2.length = g.1) (fun g => 4 - g.1) (0, off, []) [0, 1] ⟨by simp, by simp, by simp, rfl⟩ ?_ ?_
  · repeat' (first
      | ((conv => whnf); (first
        | refine brK_dec (fun _ => ?_) (fun _ => ?_)
        | refine brK_ndec (fun _ => ?_) (fun _ => ?_)
        | refine brK_not (fun _ => ?_) (fun _ => ?_)
        | refine brK_in (fun _ => ?_) (fun _ => ?_)
        | refine And.intro (by first | exact rfl | exact ⟨_, rfl, rfl⟩ | exact ⟨rfl, rfl, rfl⟩ | exact of_decide_eq_true rfl | exact trivial | assumption | omega | (show (_ ≤ _ ∧ _ ≤ _); omega) | (simp; omega) | exact ⟨by first | omega | (simp; omega), _, rfl, rfl⟩) ?_
        | refine Both.mk ?_ ?_
        | refine Exists.intro _ (And.intro rfl ?_)
        | refine fun _ => ?_))
      | exact rfl)
  rintro ⟨i, off1, js⟩ ⟨hi, ho1, ho2, hl⟩
  dsimp only at hi ho1 ho2 hl ⊢
  have hl2 := rows2_len js
  have b1 : ((rows2 js).length + 1) * 16 ≤ 140737488355328 := by omega
  have b2 : (rows2 js).length + 1 ≤ 9223372036854775807 := by omega
  repeat' (first
    | ((conv => whnf); (first
      | refine brK_dec (fun _ => ?_) (fun _ => ?_)
      | refine brK_ndec (fun _ => ?_) (fun _ => ?_)
      | refine brK_not (fun _ => ?_) (fun _ => ?_)
      | refine brK_in (fun _ => ?_) (fun _ => ?_)
      | refine And.intro (by first | exact rfl | exact (by first | exact b1 | exact b2) | exact ⟨_, rfl, rfl⟩ | exact ⟨rfl, rfl, rfl⟩ | exact of_decide_eq_true rfl | exact trivial | assumption | omega | (show (_ ≤ _ ∧ _ ≤ _); omega) | (simp; omega) | exact ⟨by first | omega | (simp; omega), _, rfl, rfl⟩) ?_
      | refine Both.mk ?_ ?_
      | refine Exists.intro _ (And.intro rfl ?_)
      | refine fun _ => ?_))
    | exact rfl)
  · rename_i x1 x2 x3 x4 y1 y2 y3 z1 z2 z3
    refine ⟨(i + 1, off1 + 1 + 1 + 1, js ++ [(1 + y1, if inR (800 + z1) 1 996 then (800 + z1) * 5 % 997 else 0)]), [0, 1], ⟨?_, ?_, ?_, ?_⟩, ?_, ?_⟩
    · dsimp only; omega
    · dsimp only; omega
    · dsimp only; omega
    · dsimp only; rw [List.length_append, hl]; rfl
    · dsimp only; omega
    · repeat' (first
        | ((conv => whnf); (first
          | refine brK_dec (fun _ => ?_) (fun _ => ?_)
          | refine brK_ndec (fun _ => ?_) (fun _ => ?_)
          | refine brK_not (fun _ => ?_) (fun _ => ?_)
          | refine brK_in (fun _ => ?_) (fun _ => ?_)
          | refine And.intro (by first | exact rfl | exact (by first | rfl | (rw [List.take_length]; exact rows2_snoc js _)) | exact ⟨_, rfl, rfl⟩ | exact ⟨rfl, rfl, rfl⟩ | exact of_decide_eq_true rfl | exact trivial | assumption | omega | (show (_ ≤ _ ∧ _ ≤ _); omega) | (simp; omega) | exact ⟨by first | omega | (simp; omega), _, rfl, rfl⟩) ?_
          | refine Both.mk ?_ ?_
          | refine Exists.intro _ (And.intro rfl ?_)
          | refine fun _ => ?_))
        | exact rfl)
  · rename_i x1 x2 x3 x4 y1 y2 y3 y4 z1 z2 z3 o1 v1 w1 w2 w3 w4
    show roK false (AV.own 1) [rdO b o1, AO.arr 2 (List.take (rows2 js).length (rows2 js) ++ [[I z1, I v1]])] [] (K (AV.own 1) [rdO b o1, AO.arr 2 (List.take (rows2 js).length (rows2 js) ++ [[I z1, I v1]])] [])
    rw [List.take_length, ← rows2_snoc js (z1, v1)]
    exact ⟨⟨rfl, ro2 _ _ _, rfl⟩, h _ _ (by omega) (by omega) (by simp; omega)⟩
  · exact ⟨⟨rfl, ro2 _ _ _, rfl⟩, h _ _ (by omega) (by omega) (by omega)⟩
theorem ro3 (c k g : List Int) (js : List (Int × Int)) : [AO.iarr c, AO.iarr k, AO.iarr g, AO.arr 2 (rows2 js)].all roFreeB = true := by
  simp only [List.all_cons, List.all_nil, roFreeB, rows2_ro, roFreeC, Bool.and_true]
structure EpW where
  n : Int
  c : List Int
  k : List Int
  r : Int
def c_spec_DrawEpochNext : Con := ⟨4, 0, false, fun xs hs _ K => match xs with
  | [.bytes b] => hs = [] ∧ b.length ≤ 1048576 ∧ ∀ n c k r gs js r2, c.length ≤ 20 → k.length ≤ 21 → gs.length ≤ 22 → js.length ≤ 4 →
      K (.tup [.agg [I n, .own 0, .own 1, I r], .own 2, .own 3, I r2]) [.iarr c, .iarr k, .iarr gs, .arr 2 (rows2 js)] []
  | _ => False⟩
theorem k_spec_DrawEpochNext : Keeps' Try.prog 21 c_spec_DrawEpochNext := by
  refine keeps_of_cut (r := 5) mix TyT_ok (cok_cons k_spec_l6Open Try.func39 rfl rfl (cok_cons k_spec_l92Epoch Try.func40 rfl rfl (cok_cons k_spec_l6Rd_pick Try.func41 rfl rfl (cok_cons k_spec_l92Spoilt Try.func42 rfl rfl (cok_cons k_spec_l92Joins Try.func43 rfl rfl (cok_cons k_spec_l91Digest Try.func44 rfl rfl cok_nil)))))) Try.func21 rfl rfl rfl rfl ?_
  intro aargs hs Fs K h
  simp only [c_spec_DrawEpochNext] at h
  split at h
  case h_2 => exact h.elim
  rename_i b
  obtain ⟨rfl, hb, h⟩ := h
  refine ⟨List UInt8 × Int × EpW, fun g => mkS 54 [(2, .ptr 0 0), (3, .val (.slice none 0 0)), (4, .val (.slice none 0 0)), (5, I 0), (6, .ptr 1 0), (7, .ptr 2 0)]
    [.cells [I 0, .val (.slice none 0 0), .val (.slice none 0 0), I 0], rdO g.1 g.2.1, .cells [I g.2.2.n, .own 3, .own 4, I g.2.2.r], .iarr g.2.2.c, .iarr g.2.2.k] Fs,
    fun g => g.1.length ≤ 2000 ∧ 0 ≤ g.2.1 ∧ g.2.1 ≤ 1000 ∧ g.2.2.c.length ≤ 20 ∧ g.2.2.k.length ≤ 21, ?_, ?_⟩
  · repeat' (first
      | ((conv => whnf); (first
        | refine brK_dec (fun _ => ?_) (fun _ => ?_)
        | refine brK_ndec (fun _ => ?_) (fun _ => ?_)
        | refine brK_not (fun _ => ?_) (fun _ => ?_)
        | refine brK_in (fun _ => ?_) (fun _ => ?_)
        | refine And.intro (by first | exact rfl | exact ⟨_, rfl, rfl⟩ | exact ⟨rfl, rfl, rfl⟩ | exact of_decide_eq_true rfl | exact trivial | assumption | omega | (show (_ ≤ _ ∧ _ ≤ _); omega) | (simp; omega) | exact ⟨by first | omega | (simp; omega), _, rfl, rfl⟩) ?_
        | refine Both.mk ?_ ?_
        | refine Exists.intro _ (And.intro rfl ?_)
        | refine fun _ => ?_))
      | exact rfl)
    · rename_i b1 hb1 o1 n c k r s p1 p2 p3 p4 p5 p6 p7 p8 p9 p10 p11 x x0 x1 hx o2 n' c' k' r' w1 w2 w3 w4
      (conv => whnf)
      refine ⟨(b1, o2, ⟨n', c', k', r'⟩), [0, 1, 5, 6, 7], ⟨by dsimp only; omega, by dsimp only; omega, by dsimp only; omega, by dsimp only; omega, by dsimp only; omega⟩, ?_⟩
      repeat' (first
        | ((conv => whnf); (first
          | refine brK_dec (fun _ => ?_) (fun _ => ?_)
          | refine brK_ndec (fun _ => ?_) (fun _ => ?_)
          | refine brK_not (fun _ => ?_) (fun _ => ?_)
          | refine brK_in (fun _ => ?_) (fun _ => ?_)
          | refine And.intro (by first | exact rfl | exact ⟨_, rfl, rfl⟩ | exact ⟨rfl, rfl, rfl⟩ | exact of_decide_eq_true rfl | exact trivial | assumption | omega | (show (_ ≤ _ ∧ _ ≤ _); omega) | (simp; omega) | exact ⟨by first | omega | (simp; omega), _, rfl, rfl⟩) ?_
          | refine Both.mk ?_ ?_
          | refine Exists.intro _ (And.intro rfl ?_)
          | refine fun _ => ?_))
        | exact rfl)
    · rename_i b1 hb1 o1 n c k r s p1 p2 p3 p4 p5 p6 p7 p8 p9 p10 p11 x x0 x1 hx
      (conv => whnf)
      refine ⟨(b1, o1 + 1, ⟨n, c, k, r⟩), [0, 1, 5, 2, 3], ⟨by dsimp only; omega, by dsimp only; omega, by dsimp only; omega, by dsimp only; omega, by dsimp only; omega⟩, ?_⟩
      repeat' (first
        | ((conv => whnf); (first
          | refine brK_dec (fun _ => ?_) (fun _ => ?_)
          | refine brK_ndec (fun _ => ?_) (fun _ => ?_)
          | refine brK_not (fun _ => ?_) (fun _ => ?_)
          | refine brK_in (fun _ => ?_) (fun _ => ?_)
          | refine And.intro (by first | exact rfl | exact ⟨_, rfl, rfl⟩ | exact ⟨rfl, rfl, rfl⟩ | exact of_decide_eq_true rfl | exact trivial | assumption | omega | (show (_ ≤ _ ∧ _ ≤ _); omega) | (simp; omega) | exact ⟨by first | omega | (simp; omega), _, rfl, rfl⟩) ?_
          | refine Both.mk ?_ ?_
          | refine Exists.intro _ (And.intro rfl ?_)
          | refine fun _ => ?_))
        | exact rfl)
  · rintro ⟨b1, o1, ⟨n, c, k, r⟩⟩ ⟨q1, q2, q3, q4, q5⟩
    dsimp only at q1 q2 q3 q4 q5 ⊢
    repeat' (first
      | ((conv => whnf); (first
        | refine brK_dec (fun _ => ?_) (fun _ => ?_)
        | refine brK_ndec (fun _ => ?_) (fun _ => ?_)
        | refine brK_not (fun _ => ?_) (fun _ => ?_)
        | refine brK_in (fun _ => ?_) (fun _ => ?_)
        | refine And.intro (by first | exact rfl | exact ⟨_, rfl, rfl⟩ | exact ⟨rfl, rfl, rfl⟩ | exact of_decide_eq_true rfl | exact trivial | assumption | omega | (show (_ ≤ _ ∧ _ ≤ _); omega) | (simp; omega) | exact ⟨by first | omega | (simp; omega), _, rfl, rfl⟩) ?_
        | refine Both.mk ?_ ?_
        | refine Exists.intro _ (And.intro rfl ?_)
        | refine fun _ => ?_))
      | exact rfl)
    refine loop_in (ι := Nat × Int × List Int) (fun g => mkS 54 [(2, .ptr 0 0), (3, .val (.slice none 0 0)), (4, .val (.slice none 0 0)), (5, I 0), (6, .ptr 1 0), (7, .ptr 2 0), (9, .own 5), (10, I g.1)]
      [.cells [I 0, .val (.slice none 0 0), .val (.slice none 0 0), I 0], rdO b1 g.2.1, .cells [I n, .own 3, .own 4, I r], .iarr c, .iarr k, .iarr g.2.2] Fs)
      (fun g => g.1 ≤ c.length ∧ o1 ≤ g.2.1 ∧ g.2.1 ≤ o1 + g.1 ∧ g.2.2.length ≤ g.1) (fun g => c.length - g.1) (0, o1, []) [0, 1, 2, 3, 4, 5] ⟨by simp, by simp, by simp, by simp⟩ ?_ ?_
    · repeat' (first
        | ((conv => whnf); (first
          | refine brK_dec (fun _ => ?_) (fun _ => ?_)
          | refine brK_ndec (fun _ => ?_) (fun _ => ?_)
          | refine brK_not (fun _ => ?_) (fun _ => ?_)
          | refine brK_in (fun _ => ?_) (fun _ => ?_)
          | refine And.intro (by first | exact rfl | exact ⟨_, rfl, rfl⟩ | exact ⟨rfl, rfl, rfl⟩ | exact of_decide_eq_true rfl | exact trivial | assumption | omega | (show (_ ≤ _ ∧ _ ≤ _); omega) | (simp; omega) | exact ⟨by first | omega | (simp; omega), _, rfl, rfl⟩) ?_
          | refine Both.mk ?_ ?_
          | refine Exists.intro _ (And.intro rfl ?_)
          | refine fun _ => ?_))
        | exact rfl)
    rintro ⟨i, o3, l⟩ ⟨hi, ho1, ho2, hl⟩
    dsimp only at hi ho1 ho2 hl ⊢
    repeat' (first
      | ((conv => whnf); (first
        | refine draw_plan (id := 13) [0,1] [] (.take 0 (.take 1 (.take 2 (.take 4 (.run 3 (.run 5 (.run 6 (.take 7 (.take 8 (.take 9 .done)))))))))) (by kernel_rfl) (by kernel_rfl) ?_
        | refine brK_dec (fun _ => ?_) (fun _ => ?_)
        | refine brK_ndec (fun _ => ?_) (fun _ => ?_)
        | refine brK_not (fun _ => ?_) (fun _ => ?_)
        | refine brK_in (fun _ => ?_) (fun _ => ?_)
        | refine And.intro (by first | exact rfl | exact ⟨_, rfl, rfl⟩ | exact ⟨rfl, rfl, rfl⟩ | exact of_decide_eq_true rfl | exact trivial | assumption | omega | (show (_ ≤ _ ∧ _ ≤ _); omega) | (simp; omega) | exact ⟨by first | omega | (simp; omega), _, rfl, rfl⟩) ?_
        | refine Both.mk ?_ ?_
        | refine Exists.intro _ (And.intro rfl ?_)
        | refine fun _ => ?_))
      | exact rfl)
    · rename_i him x x0 x1 hx
      refine ⟨(i + 1, o3 + 1, l.take l.length ++ [(i : Int)]), [0, 1, 2, 3, 4, 5], ⟨by dsimp only; omega, by dsimp only; omega, by dsimp only; omega, by dsimp only; simp; omega⟩, by dsimp only; omega, ?_⟩
      repeat' (first
        | ((conv => whnf); (first
          | refine brK_dec (fun _ => ?_) (fun _ => ?_)
          | refine brK_ndec (fun _ => ?_) (fun _ => ?_)
          | refine brK_not (fun _ => ?_) (fun _ => ?_)
          | refine brK_in (fun _ => ?_) (fun _ => ?_)
          | refine And.intro (by first | exact rfl | exact ⟨_, rfl, rfl⟩ | exact ⟨rfl, rfl, rfl⟩ | exact of_decide_eq_true rfl | exact trivial | assumption | omega | (show (_ ≤ _ ∧ _ ≤ _); omega) | (simp; omega) | exact ⟨by first | omega | (simp; omega), _, rfl, rfl⟩) ?_
          | refine Both.mk ?_ ?_
          | refine Exists.intro _ (And.intro rfl ?_)
          | refine fun _ => ?_))
        | exact rfl)
    · rename_i him x x0 x1 hx
      refine ⟨(i + 1, o3 + 1, l), [0, 1, 2, 3, 4, 5], ⟨by dsimp only; omega, by dsimp only; omega, by dsimp only; omega, by dsimp only; omega⟩, by dsimp only; omega, ?_⟩
      repeat' (first
        | ((conv => whnf); (first
          | refine brK_dec (fun _ => ?_) (fun _ => ?_)
          | refine brK_ndec (fun _ => ?_) (fun _ => ?_)
          | refine brK_not (fun _ => ?_) (fun _ => ?_)
          | refine brK_in (fun _ => ?_) (fun _ => ?_)
          | refine And.intro (by first | exact rfl | exact ⟨_, rfl, rfl⟩ | exact ⟨rfl, rfl, rfl⟩ | exact of_decide_eq_true rfl | exact trivial | assumption | omega | (show (_ ≤ _ ∧ _ ≤ _); omega) | (simp; omega) | exact ⟨by first | omega | (simp; omega), _, rfl, rfl⟩) ?_
          | refine Both.mk ?_ ?_
          | refine Exists.intro _ (And.intro rfl ?_)
          | refine fun _ => ?_))
        | exact rfl)
    · exact ⟨⟨rfl, ro3 _ _ _ _, rfl⟩, h _ _ _ _ _ _ _ (by omega) (by omega) (by simp; omega) (by assumption)⟩
    · exact ⟨⟨rfl, ro3 _ _ _ _, rfl⟩, h _ _ _ _ _ _ _ (by omega) (by omega) (by omega) (by assumption)⟩
end Go.Proofs.Ytgfpcjomgmdapaa
