/-
Drawn links.
No conditions.
-/
import Derived.Test.YtlhbdhccddadaaaGreatDoorDrG
import Derived.Test.YtlhbdhccddadaaaGreatDoorLmA
import Derived.Test.YtlhbdhccddadaaaGreatDoorChP
namespace Go.Proofs.YtlhbdhccddadaaaGreatDoor
open Go Go.Vc
set_option maxHeartbeats 4000000
set_option maxRecDepth 10000
def c_spec_l92Link : Con := ⟨3, 1, false, fun xs hs _ K => match xs, hs with
  | [.ptr 0 0, .agg [.val (.int .i64 _), .ints c, .ints k, .val (.int .i64 _)], .agg [.val (.int .i64 n2), .ints c2, .ints k2, .val (.int .i64 r2)], .ints s], [.cells [.bytes b, .val (.int .i64 off)]] =>
    b.length ≤ 2000 ∧ 0 ≤ off ∧ off ≤ 900000 ∧ c.length ≤ 30 ∧ k.length ≤ 30 ∧ c2.length ≤ 30 ∧ k2.length ≤ 30 ∧ s.length ≤ 30 ∧
      Both (∀ off' d s' m, off ≤ off' → off' ≤ off + 40 → s'.length ≤ 30 → K (.tup [.agg [I n2, .own 1, .own 2, I r2, I d, .own 3, I m], B true]) [rdO b off', .iarr c2, .iarr k2, .iarr s'] [])
        (∀ off', off ≤ off' → off' ≤ off + 40 → K (.tup [.agg [I 0, .val (.slice none 0 0), .val (.slice none 0 0), I 0, I 0, .val (.slice none 0 0), I 0], B false]) [rdO b off'] [])
  | _, _ => False⟩
theorem k_spec_l92Link : Keeps' Tryz.prog 36 c_spec_l92Link := by
  refine keeps_of_vc mix TyT_ok (cok_cons k_spec_l6Rd_pick Tryz.func33 rfl rfl (cok_cons k_spec_LinkMake Tryz.func76 rfl rfl cok_nil)) Tryz.func36 rfl rfl rfl ?_
  intro aargs hs Fs K h
  simp only [c_spec_l92Link] at h
  split at h
  case h_2 => exact h.elim
  rename_i n c k r n2 c2 k2 r2 s b off
  obtain ⟨hb, h0, h1, hc, hk, hc2, hk2, hs, h⟩ := h
  repeat' (first
    | ((conv => whnf); (first
      | refine brK_dec (fun _ => ?_) (fun _ => ?_)
      | refine brK_ndec (fun _ => ?_) (fun _ => ?_)
      | refine brK_not (fun _ => ?_) (fun _ => ?_)
      | refine brK_in (fun _ => ?_) (fun _ => ?_)
      | refine And.intro (by first | exact rfl | exact ⟨_, rfl, rfl⟩ | exact ⟨rfl, rfl, rfl⟩ | exact of_decide_eq_true rfl | exact trivial | assumption | omega | (show (_ ≤ _ ∧ _ ≤ _); omega) | (simp; omega) | exact ⟨by first | omega | (simp; omega), _, rfl, rfl⟩) ?_
      | refine Both.mk ?_ ?_
      | refine Exists.intro _ (And.intro rfl ?_)
      | refine fun _ => ?_))
    | exact rfl)
  refine loop_in (ι := Nat × Int × List Int) (fun g => mkS 46 [(0, .ptr 0 0), (3, .ints s), (5, .ptr 1 0), (6, .ptr 2 0), (8, .ptr 3 0), (9, B false), (10, .own 4), (11, I g.1)] [rdO b g.2.1, .cells [I n, .ints c, .ints k, I r], .cells [I n2, .ints c2, .ints k2, I r2], .cells [I 0, .val (.slice none 0 0), .val (.slice none 0 0), I 0, I 0, .val (.slice none 0 0), I 0], .iarr g.2.2] Fs)
    (fun g => g.1 ≤ s.length ∧ off ≤ g.2.1 ∧ g.2.1 ≤ off + g.1 ∧ g.2.2.length = s.length) (fun g => s.length - g.1) (0, off, s) [0, 1, 2, 3, 4] ⟨by simp, by simp, by simp, rfl⟩ ?_ ?_
  · repeat' (first
      | ((conv => whnf); (first
        | refine brK_dec (fun _ => ?_) (fun _ => ?_)
        | refine brK_ndec (fun _ => ?_) (fun _ => ?_)
        | refine brK_not (fun _ => ?_) (fun _ => ?_)
        | refine brK_in (fun _ => ?_) (fun _ => ?_)
        | refine And.intro (by first | exact rfl | exact ⟨_, rfl, rfl⟩ | exact ⟨rfl, rfl, rfl⟩ | exact of_decide_eq_true rfl | exact trivial | assumption | omega | (show (_ ≤ _ ∧ _ ≤ _); omega) | (simp; omega) | exact ⟨by first | omega | (simp; omega), _, rfl, rfl⟩) ?_
        | refine Both.mk ?_ ?_
        | refine Exists.intro _ (And.intro rfl ?_)
        | refine fun _ => ?_))
      | exact rfl)
  rintro ⟨i, off1, l⟩ ⟨hi, ho1, ho2, hl⟩
  dsimp only at hi ho1 ho2 hl ⊢
  repeat' (first
    | ((conv => whnf); (first
      | refine brK_dec (fun _ => ?_) (fun _ => ?_)
      | refine brK_ndec (fun _ => ?_) (fun _ => ?_)
      | refine brK_not (fun _ => ?_) (fun _ => ?_)
      | refine brK_in (fun _ => ?_) (fun _ => ?_)
      | refine And.intro (by first | exact rfl | exact ⟨_, rfl, rfl⟩ | exact ⟨rfl, rfl, rfl⟩ | exact of_decide_eq_true rfl | exact trivial | assumption | omega | (show (_ ≤ _ ∧ _ ≤ _); omega) | (simp; omega) | exact ⟨by first | omega | (simp; omega), _, rfl, rfl⟩) ?_
      | refine Both.mk ?_ ?_
      | refine Exists.intro _ (And.intro rfl ?_)
      | refine fun _ => ?_))
    | exact rfl)
  · rename_i hil x hx0 hx1 hx
    refine ⟨(i + 1, off1 + 1, l.set i 0), [0, 1, 2, 3, 4], ⟨by dsimp only; omega, by dsimp only; omega, by dsimp only; omega, by dsimp only; simp; omega⟩, by dsimp only; omega, ?_⟩
    repeat' (first
      | ((conv => whnf); (first
        | refine brK_dec (fun _ => ?_) (fun _ => ?_)
        | refine brK_ndec (fun _ => ?_) (fun _ => ?_)
        | refine brK_not (fun _ => ?_) (fun _ => ?_)
        | refine brK_in (fun _ => ?_) (fun _ => ?_)
        | refine And.intro (by first | exact rfl | exact ⟨_, rfl, rfl⟩ | exact ⟨rfl, rfl, rfl⟩ | exact of_decide_eq_true rfl | exact trivial | assumption | omega | (show (_ ≤ _ ∧ _ ≤ _); omega) | (simp; omega) | exact ⟨by first | omega | (simp; omega), _, rfl, rfl⟩) ?_
        | refine Both.mk ?_ ?_
        | refine Exists.intro _ (And.intro rfl ?_)
        | refine fun _ => ?_))
      | exact rfl)
  · rename_i hil x hx0 hx1 hx
    refine ⟨(i + 1, off1 + 1, l), [0, 1, 2, 3, 4], ⟨by dsimp only; omega, by dsimp only; omega, by dsimp only; omega, by dsimp only; omega⟩, by dsimp only; omega, ?_⟩
    repeat' (first
      | ((conv => whnf); (first
        | refine brK_dec (fun _ => ?_) (fun _ => ?_)
        | refine brK_ndec (fun _ => ?_) (fun _ => ?_)
        | refine brK_not (fun _ => ?_) (fun _ => ?_)
        | refine brK_in (fun _ => ?_) (fun _ => ?_)
        | refine And.intro (by first | exact rfl | exact ⟨_, rfl, rfl⟩ | exact ⟨rfl, rfl, rfl⟩ | exact of_decide_eq_true rfl | exact trivial | assumption | omega | (show (_ ≤ _ ∧ _ ≤ _); omega) | (simp; omega) | exact ⟨by first | omega | (simp; omega), _, rfl, rfl⟩) ?_
        | refine Both.mk ?_ ?_
        | refine Exists.intro _ (And.intro rfl ?_)
        | refine fun _ => ?_))
      | exact rfl)
  · have q := sgnL_len (sgnS (digE n2 c2 k2 r2) l) c.length
    exact h.l _ _ _ _ (by omega) (by omega) (by omega)
  · have q := sgnL_len (sgnS (digE n2 c2 k2 r2) s) c.length
    exact h.l _ _ _ _ (by omega) (by omega) (by omega)
  · exact h.r _ (by omega) (by omega)
end Go.Proofs.YtlhbdhccddadaaaGreatDoor
