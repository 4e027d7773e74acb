/-
The laws' own comparisons of drawn certificates and links.
No conditions.
-/
import Derived.Test.YtbpnfmpbaohklaaDoorLxB
namespace Go.Proofs.YtbpnfmpbaohklaaDoor
open Go Go.Vc
set_option maxHeartbeats 1000000
set_option maxRecDepth 10000
def c_laws_sameCert : Con := ⟨0, 0, false, fun xs hs _ K => match xs with
  | [.agg [.val (.int .i64 d), .ints s, .val (.int .i64 m)], .agg [.val (.int .i64 d'), .ints s', .val (.int .i64 m')]] =>
    hs = [] ∧ s.length < 2000000 ∧ s'.length < 2000000 ∧ K (B (decide (d = d' ∧ s = s' ∧ m = m'))) [] []
  | _ => False⟩
theorem k_laws_sameCert : Keeps' Tryd.prog 79 c_laws_sameCert := by
  refine keeps_of_vc mix TyT_ok (cok_cons k_laws_sameInts Tryd.func32 rfl rfl cok_nil) Tryd.func79 rfl rfl rfl ?_
  intro aargs hs Fs K h
  simp only [c_laws_sameCert] at h
  split at h
  case h_2 => exact h.elim
  rename_i d s m d' s' m'
  obtain ⟨rfl, h1, h2, h⟩ := h
  have no : ∀ {b : Bool}, decide (d = d' ∧ s = s' ∧ m = m') = b → K (B b) [] [] := fun e => by rw [← e]; exact h
  repeat' (first
    | ((conv => whnf); (first
      | refine brK_dec (fun _ => ?_) (fun _ => ?_)
      | refine brK_ndec (fun _ => ?_) (fun _ => ?_)
      | refine brK_not (fun _ => ?_) (fun _ => ?_)
      | refine brK_in (fun _ => ?_) (fun _ => ?_)
      | refine And.intro (by first | exact rfl | exact ⟨_, rfl, rfl⟩ | exact ⟨rfl, rfl, rfl⟩ | exact of_decide_eq_true rfl | exact trivial | assumption | omega | (show (_ ≤ _ ∧ _ ≤ _); omega) | (simp; omega) | exact ⟨by first | omega | (simp; omega), _, rfl, rfl⟩) ?_
      | refine Both.mk ?_ ?_
      | refine Exists.intro _ (And.intro rfl ?_)
      | refine fun _ => ?_))
    | exact rfl)
  all_goals exact no (by simp_all)
def c_laws_sameLink : Con := ⟨0, 0, false, fun xs hs _ K => match xs with
  | [.agg [.val (.int .i64 n), .ints c, .ints k, .val (.int .i64 r), .val (.int .i64 d), .ints s, .val (.int .i64 m)], .agg [.val (.int .i64 n'), .ints c', .ints k', .val (.int .i64 r'), .val (.int .i64 d'), .ints s', .val (.int .i64 m')]] =>
    hs = [] ∧ c.length < 2000000 ∧ k.length < 2000000 ∧ s.length < 2000000 ∧ c'.length < 2000000 ∧ k'.length < 2000000 ∧ s'.length < 2000000 ∧
    K (B (decide ((n = n' ∧ c = c' ∧ k = k' ∧ r = r') ∧ (d = d' ∧ s = s' ∧ m = m')))) [] []
  | _ => False⟩
theorem k_laws_sameLink : Keeps' Tryd.prog 37 c_laws_sameLink := by
  refine keeps_of_vc mix TyT_ok (cok_cons k_laws_sameEpoch Tryd.func40 rfl rfl (cok_cons k_laws_sameCert Tryd.func79 rfl rfl cok_nil)) Tryd.func37 rfl rfl rfl ?_
  intro aargs hs Fs K h
  simp only [c_laws_sameLink] at h
  split at h
  case h_2 => exact h.elim
  rename_i n c k r d s m n' c' k' r' d' s' m'
  obtain ⟨rfl, h1, h2, h3, h4, h5, h6, h⟩ := h
  have no : ∀ {b : Bool}, decide ((n = n' ∧ c = c' ∧ k = k' ∧ r = r') ∧ (d = d' ∧ s = s' ∧ m = m')) = b → K (B b) [] [] := fun e => by rw [← e]; exact h
  repeat' (first
    | ((conv => whnf); (first
      | refine brK_dec (fun _ => ?_) (fun _ => ?_)
      | refine brK_ndec (fun _ => ?_) (fun _ => ?_)
      | refine brK_not (fun _ => ?_) (fun _ => ?_)
      | refine brK_in (fun _ => ?_) (fun _ => ?_)
      | refine And.intro (by first | exact rfl | exact ⟨_, rfl, rfl⟩ | exact ⟨rfl, rfl, rfl⟩ | exact of_decide_eq_true rfl | exact trivial | assumption | omega | (show (_ ≤ _ ∧ _ ≤ _); omega) | (simp; omega) | exact ⟨by first | omega | (simp; omega), _, rfl, rfl⟩) ?_
      | refine Both.mk ?_ ?_
      | refine Exists.intro _ (And.intro rfl ?_)
      | refine fun _ => ?_))
    | exact rfl)
  all_goals exact no (by simp_all)
def c_laws_hasInt : Con := ⟨0, 0, false, fun xs hs _ K => match xs with
  | [.ints l, .val (.int .i64 x)] => hs = [] ∧ l.length < 2000000 ∧ K (B (decide (x ∈ l))) [] []
  | _ => False⟩
theorem k_laws_hasInt : Keeps' Tryd.prog 33 c_laws_hasInt := by
  refine keeps_of_vc mix TyT_ok cok_nil Tryd.func33 rfl rfl rfl ?_
  intro aargs hs Fs K h
  simp only [c_laws_hasInt] at h
  split at h
  case h_2 => exact h.elim
  rename_i l x
  obtain ⟨rfl, hl, h⟩ := h
  have no : ∀ {b : Bool}, decide (x ∈ l) = b → K (B b) [] [] := fun e => by rw [← e]; exact h
  repeat' (first
    | ((conv => whnf); (first
      | refine brK_dec (fun _ => ?_) (fun _ => ?_)
      | refine brK_ndec (fun _ => ?_) (fun _ => ?_)
      | refine brK_not (fun _ => ?_) (fun _ => ?_)
      | refine brK_in (fun _ => ?_) (fun _ => ?_)
      | refine And.intro (by first | exact rfl | exact ⟨_, rfl, rfl⟩ | exact ⟨rfl, rfl, rfl⟩ | exact of_decide_eq_true rfl | exact trivial | assumption | omega | (show (_ ≤ _ ∧ _ ≤ _); omega) | (simp; omega) | exact ⟨by first | omega | (simp; omega), _, rfl, rfl⟩) ?_
      | refine Both.mk ?_ ?_
      | refine Exists.intro _ (And.intro rfl ?_)
      | refine fun _ => ?_))
    | exact rfl)
  refine loop_in (ι := Nat) (fun i => mkS 18 [(0, .ints l), (1, I x), (4, B false), (5, I i)] [] Fs) (fun i => i ≤ l.length ∧ ∀ y ∈ l.take i, y ≠ x) (fun i => l.length - i) 0 [] ⟨Nat.zero_le _, by simp⟩ ?_ ?_
  · repeat' (first
      | ((conv => whnf); (first
        | refine brK_dec (fun _ => ?_) (fun _ => ?_)
        | refine brK_ndec (fun _ => ?_) (fun _ => ?_)
        | refine brK_not (fun _ => ?_) (fun _ => ?_)
        | refine brK_in (fun _ => ?_) (fun _ => ?_)
        | refine And.intro (by first | exact rfl | exact ⟨_, rfl, rfl⟩ | exact ⟨rfl, rfl, rfl⟩ | exact of_decide_eq_true rfl | exact trivial | assumption | omega | (show (_ ≤ _ ∧ _ ≤ _); omega) | (simp; omega) | exact ⟨by first | omega | (simp; omega), _, rfl, rfl⟩) ?_
        | refine Both.mk ?_ ?_
        | refine Exists.intro _ (And.intro rfl ?_)
        | refine fun _ => ?_))
      | exact rfl)
  intro i ⟨hi, hall⟩
  repeat' (first
    | ((conv => whnf); (first
      | refine brK_dec (fun _ => ?_) (fun _ => ?_)
      | refine brK_ndec (fun _ => ?_) (fun _ => ?_)
      | refine brK_not (fun _ => ?_) (fun _ => ?_)
      | refine brK_in (fun _ => ?_) (fun _ => ?_)
      | refine And.intro (by first | exact rfl | exact ⟨_, rfl, rfl⟩ | exact ⟨rfl, rfl, rfl⟩ | exact of_decide_eq_true rfl | exact trivial | assumption | omega | (show (_ ≤ _ ∧ _ ≤ _); omega) | (simp; omega) | exact ⟨by first | omega | (simp; omega), _, rfl, rfl⟩) ?_
      | refine Both.mk ?_ ?_
      | refine Exists.intro _ (And.intro rfl ?_)
      | refine fun _ => ?_))
    | exact rfl)
  · rename_i hil y hy e
    exact no (decide_eq_true (by rw [← e]; exact List.mem_of_getElem? hy))
  · rename_i hil y hy e
    refine ⟨i + 1, [], ⟨by omega, take_all hall hy e⟩, by omega, ?_⟩
    repeat' (first
      | ((conv => whnf); (first
        | refine brK_dec (fun _ => ?_) (fun _ => ?_)
        | refine brK_ndec (fun _ => ?_) (fun _ => ?_)
        | refine brK_not (fun _ => ?_) (fun _ => ?_)
        | refine brK_in (fun _ => ?_) (fun _ => ?_)
        | refine And.intro (by first | exact rfl | exact ⟨_, rfl, rfl⟩ | exact ⟨rfl, rfl, rfl⟩ | exact of_decide_eq_true rfl | exact trivial | assumption | omega | (show (_ ≤ _ ∧ _ ≤ _); omega) | (simp; omega) | exact ⟨by first | omega | (simp; omega), _, rfl, rfl⟩) ?_
        | refine Both.mk ?_ ?_
        | refine Exists.intro _ (And.intro rfl ?_)
        | refine fun _ => ?_))
      | exact rfl)
  · rename_i hil
    exact no (decide_eq_false fun hx => all_take hall hil x hx rfl)
end Go.Proofs.YtbpnfmpbaohklaaDoor
