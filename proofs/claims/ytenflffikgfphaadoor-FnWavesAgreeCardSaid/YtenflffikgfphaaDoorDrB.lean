/-
Drawn committees, keys and digests.
No conditions.
-/
import Derived.Test.YtenflffikgfphaaDoorDrA
namespace Go.Proofs.YtenflffikgfphaaDoor
open Go Go.Vc
set_option maxHeartbeats 1000000
set_option maxRecDepth 10000
def c_spec_KeyPublic : Con := ⟨0, 0, false, fun xs hs _ K => match xs with
  | [.val (.int .i64 a)] => hs = [] ∧ K (I (if inR a 1 996 then a * 5 % 997 else 0)) [] []
  | _ => False⟩
def c_spec_l91Committee : Con := ⟨1, 1, false, fun xs hs _ K => match xs, hs with
  | [.ptr 0 0], [.cells [.bytes b, .val (.int .i64 off)]] =>
    b.length ≤ 2000 ∧ 0 ≤ off ∧ off ≤ 1000000 ∧ ∀ off' l r, off ≤ off' → off' ≤ off + 100 → l.length ≤ 20 → (r = .own 1 ∨ r = .sub 1 0 0) → (∀ x ∈ l, -1 ≤ x ∧ x ≤ 10) → K r [rdO b off', .iarr l] []
  | _, _ => False⟩
theorem k_spec_l91Committee : Keeps' Tryd.prog 66 c_spec_l91Committee := by
  refine keeps_of_vc mix TyT_ok (cok_cons k_spec_l6Rd_pick Tryd.func39 rfl rfl cok_nil) Tryd.func66 rfl rfl rfl ?_
  intro aargs hs Fs K h
  simp only [c_spec_l91Committee] at h
  split at h
  case h_2 => exact h.elim
  rename_i b off
  obtain ⟨hb, h0, h1, h⟩ := h
  repeat' (first
    | ((conv => whnf); (first
      | refine brK_dec (fun _ => ?_) (fun _ => ?_)
      | refine brK_ndec (fun _ => ?_) (fun _ => ?_)
      | refine brK_not (fun _ => ?_) (fun _ => ?_)
      | refine brK_in (fun _ => ?_) (fun _ => ?_)
      | refine And.intro (by first | exact rfl | exact ⟨_, rfl, rfl⟩ | exact ⟨rfl, rfl, rfl⟩ | exact of_decide_eq_true rfl | exact trivial | assumption | omega | (show (_ ≤ _ ∧ _ ≤ _); omega) | (simp; omega) | exact ⟨by first | omega | (simp; omega), _, rfl, rfl⟩) ?_
      | refine Both.mk ?_ ?_
      | refine Exists.intro _ (And.intro rfl ?_)
      | refine fun _ => ?_))
    | exact rfl)
  rename_i v hv0 hv1 m hm
  have hm' : 1 ≤ m ∧ m ≤ 7 := by
    have := List.mem_of_getElem? hm
    simp at this
    omega
  refine loop_in (ι := Nat × Int × List Int) (fun g => mkS 51 [(0, .ptr 0 0), (3, .own 1), (4, I m), (5, I g.1)] [rdO b g.2.1, .iarr g.2.2] Fs)
    (fun g => (g.1 : Int) ≤ m ∧ off ≤ g.2.1 ∧ g.2.1 ≤ off + 1 + 2 * g.1 ∧ g.2.2.length = g.1 ∧ ∀ x ∈ g.2.2, -1 ≤ x ∧ x ≤ 10) (fun g => m.toNat - g.1) (0, off + 1, []) [0, 1] ⟨by simp; omega, by simp; omega, by simp, rfl, by simp⟩ ?_ ?_
  · repeat' (first
      | ((conv => whnf); (first
        | refine brK_dec (fun _ => ?_) (fun _ => ?_)
        | refine brK_ndec (fun _ => ?_) (fun _ => ?_)
        | refine brK_not (fun _ => ?_) (fun _ => ?_)
        | refine brK_in (fun _ => ?_) (fun _ => ?_)
        | refine And.intro (by first | exact rfl | exact ⟨_, rfl, rfl⟩ | exact ⟨rfl, rfl, rfl⟩ | exact of_decide_eq_true rfl | exact trivial | assumption | omega | (show (_ ≤ _ ∧ _ ≤ _); omega) | (simp; omega) | exact ⟨by first | omega | (simp; omega), _, rfl, rfl⟩) ?_
        | refine Both.mk ?_ ?_
        | refine Exists.intro _ (And.intro rfl ?_)
        | refine fun _ => ?_))
      | exact rfl)
  rintro ⟨i, off1, l⟩ ⟨hi, ho1, ho2, hl, hx⟩
  dsimp only at hi ho1 ho2 hl hx ⊢
  repeat' (first
    | ((conv => whnf); (first
      | refine brK_dec (fun _ => ?_) (fun _ => ?_)
      | refine brK_ndec (fun _ => ?_) (fun _ => ?_)
      | refine brK_not (fun _ => ?_) (fun _ => ?_)
      | refine brK_in (fun _ => ?_) (fun _ => ?_)
      | refine And.intro (by first | exact rfl | exact ⟨_, rfl, rfl⟩ | exact ⟨rfl, rfl, rfl⟩ | exact of_decide_eq_true rfl | exact trivial | assumption | omega | (show (_ ≤ _ ∧ _ ≤ _); omega) | (simp; omega) | exact ⟨by first | omega | (simp; omega), _, rfl, rfl⟩) ?_
      | refine Both.mk ?_ ?_
      | refine Exists.intro _ (And.intro rfl ?_)
      | refine fun _ => ?_))
    | exact rfl)
  · rename_i him x hx0 hx1 y hy0 hy1
    have p0 : 0 ≤ x * y := Int.mul_nonneg hx0 hy0
    have p1 : x * y ≤ 3 * 2 := Int.mul_le_mul (by omega) (by omega) hy0 (by omega)
    repeat' (first
      | ((conv => whnf); (first
        | refine brK_dec (fun _ => ?_) (fun _ => ?_)
        | refine brK_ndec (fun _ => ?_) (fun _ => ?_)
        | refine brK_not (fun _ => ?_) (fun _ => ?_)
        | refine brK_in (fun _ => ?_) (fun _ => ?_)
        | refine And.intro (by first | exact rfl | exact ⟨_, rfl, rfl⟩ | exact ⟨rfl, rfl, rfl⟩ | exact of_decide_eq_true rfl | exact trivial | assumption | omega | (show (_ ≤ _ ∧ _ ≤ _); omega) | (simp; omega) | exact ⟨by first | omega | (simp; omega), _, rfl, rfl⟩) ?_
        | refine Both.mk ?_ ?_
        | refine Exists.intro _ (And.intro rfl ?_)
        | refine fun _ => ?_))
      | exact rfl)
    refine ⟨(i + 1, off1 + 1 + 1, l.take l.length ++ [1 + x * y / 2]), [0, 1], ⟨?_, ?_, ?_, ?_, ?_⟩, ?_, ?_⟩
    · dsimp only; omega
    · dsimp only; omega
    · dsimp only; omega
    · dsimp only; simp; omega
    · dsimp only
      intro z hz
      rw [List.take_length] at hz
      rcases List.mem_append.1 hz with hz | hz
      · exact hx z hz
      · simp at hz; omega
    · dsimp only; omega
    · repeat' (first
        | ((conv => whnf); (first
          | refine brK_dec (fun _ => ?_) (fun _ => ?_)
          | refine brK_ndec (fun _ => ?_) (fun _ => ?_)
          | refine brK_not (fun _ => ?_) (fun _ => ?_)
          | refine brK_in (fun _ => ?_) (fun _ => ?_)
          | refine And.intro (by first | exact rfl | exact ⟨_, rfl, rfl⟩ | exact ⟨rfl, rfl, rfl⟩ | exact of_decide_eq_true rfl | exact trivial | assumption | omega | (show (_ ≤ _ ∧ _ ≤ _); omega) | (simp; omega) | exact ⟨by first | omega | (simp; omega), _, rfl, rfl⟩) ?_
          | refine Both.mk ?_ ?_
          | refine Exists.intro _ (And.intro rfl ?_)
          | refine fun _ => ?_))
        | exact rfl)
  · refine h _ _ _ (by omega) (by omega) (by simp; omega) (.inl rfl) fun z hz => ?_
    rw [List.take_length] at hz
    rcases List.mem_append.1 hz with hz | hz
    · exact hx z hz
    · simp at hz; omega
  · rename_i q hq
    refine h _ _ _ (by omega) (by omega) (by simp; omega) (.inl rfl) fun z hz => ?_
    rcases List.mem_or_eq_of_mem_set hz with hz | hz
    · exact hx z hz
    · have := List.mem_of_getElem? hq
      simp at this
      omega
  · exact h _ _ _ (by omega) (by omega) (by omega) (.inr rfl) hx
  · exact h _ _ _ (by omega) (by omega) (by omega) (.inl rfl) hx
def c_spec_l91Good : Con := ⟨1, 1, false, fun xs hs _ K => match xs, hs with
  | [.ptr 0 0], [.cells [.bytes b, .val (.int .i64 off)]] =>
    b.length ≤ 2000 ∧ 0 ≤ off ∧ off ≤ 1000000 ∧ ∀ off' l, off ≤ off' → off' ≤ off + 100 → l.length ≤ 20 → comV l = true → K (.own 1) [rdO b off', .iarr l] []
  | _, _ => False⟩
theorem k_spec_l91Good : Keeps' Tryd.prog 62 c_spec_l91Good := by
  refine keeps_of_vc mix TyT_ok (cok_cons k_spec_l91Committee Tryd.func66 rfl rfl (cok_cons k_spec_CommitteeValid Tryd.func28 rfl rfl cok_nil)) Tryd.func62 rfl rfl rfl ?_
  intro aargs hs Fs K h
  simp only [c_spec_l91Good] at h
  split at h
  case h_2 => exact h.elim
  rename_i b off
  obtain ⟨hb, h0, h1, h⟩ := h
  repeat' (first
    | ((conv => whnf); (first
      | refine brK_dec (fun _ => ?_) (fun _ => ?_)
      | refine brK_ndec (fun _ => ?_) (fun _ => ?_)
      | refine brK_not (fun _ => ?_) (fun _ => ?_)
      | refine brK_in (fun _ => ?_) (fun _ => ?_)
      | refine And.intro (by first | exact rfl | exact ⟨_, rfl, rfl⟩ | exact ⟨rfl, rfl, rfl⟩ | exact of_decide_eq_true rfl | exact trivial | assumption | omega | (show (_ ≤ _ ∧ _ ≤ _); omega) | (simp; omega) | exact ⟨by first | omega | (simp; omega), _, rfl, rfl⟩) ?_
      | refine Both.mk ?_ ?_
      | refine Exists.intro _ (And.intro rfl ?_)
      | refine fun _ => ?_))
    | exact rfl)
  rename_i off1 l r ho1 ho2 hl hr hx
  rcases hr with rfl | rfl
  · repeat' (first
      | ((conv => whnf); (first
        | refine brK_dec (fun _ => ?_) (fun _ => ?_)
        | refine brK_ndec (fun _ => ?_) (fun _ => ?_)
        | refine brK_not (fun _ => ?_) (fun _ => ?_)
        | refine brK_in (fun _ => ?_) (fun _ => ?_)
        | refine And.intro (by first | exact rfl | exact ⟨_, rfl, rfl⟩ | exact ⟨rfl, rfl, rfl⟩ | exact of_decide_eq_true rfl | exact trivial | assumption | omega | (show (_ ≤ _ ∧ _ ≤ _); omega) | (simp; omega) | exact ⟨by first | omega | (simp; omega), _, rfl, rfl⟩) ?_
        | refine Both.mk ?_ ?_
        | refine Exists.intro _ (And.intro rfl ?_)
        | refine fun _ => ?_))
      | exact rfl)
    · rename_i hv
      exact h _ _ ho1 ho2 (by simp) (by decide)
    · rename_i hv
      exact h _ _ ho1 ho2 hl hv
  · repeat' (first
      | ((conv => whnf); (first
        | refine brK_dec (fun _ => ?_) (fun _ => ?_)
        | refine brK_ndec (fun _ => ?_) (fun _ => ?_)
        | refine brK_not (fun _ => ?_) (fun _ => ?_)
        | refine brK_in (fun _ => ?_) (fun _ => ?_)
        | refine And.intro (by first | exact rfl | exact ⟨_, rfl, rfl⟩ | exact ⟨rfl, rfl, rfl⟩ | exact of_decide_eq_true rfl | exact trivial | assumption | omega | (show (_ ≤ _ ∧ _ ≤ _); omega) | (simp; omega) | exact ⟨by first | omega | (simp; omega), _, rfl, rfl⟩) ?_
        | refine Both.mk ?_ ?_
        | refine Exists.intro _ (And.intro rfl ?_)
        | refine fun _ => ?_))
      | exact rfl)
    exact h _ _ ho1 ho2 (by simp) (by decide)
def c_spec_l91Secrets : Con := ⟨1, 1, false, fun xs hs _ K => match xs, hs with
  | [.ptr 0 0, .val (.int .i64 n)], [.cells [.bytes b, .val (.int .i64 off)]] =>
    b.length ≤ 2000 ∧ 0 ≤ off ∧ off ≤ 1000000 ∧ 0 ≤ n ∧ n ≤ 20 ∧ ∀ off' l, off ≤ off' → off' ≤ off + 100 → (l.length : Int) = n → (∀ x ∈ l, 1 ≤ x ∧ x ≤ 3000) → K (.own 1) [rdO b off', .iarr l] []
  | _, _ => False⟩
def c_spec_l91Keys : Con := ⟨1, 0, false, fun xs hs _ K => match xs with
  | [.ints s] => hs = [] ∧ s.length ≤ 20 ∧ (∀ x ∈ s, 1 ≤ x ∧ x ≤ 3000) ∧ ∀ l, l.length = s.length → (∀ x ∈ l, 0 ≤ x ∧ x ≤ 996) → K (.own 0) [.iarr l] []
  | _ => False⟩
end Go.Proofs.YtenflffikgfphaaDoor
