/-
The laws' own marks on slices of numbers.
No conditions.
-/
import Derived.Test.YtlhbdhccddadaaaDoorLxE
namespace Go.Proofs.YtlhbdhccddadaaaDoor
open Go Go.Vc
set_option maxHeartbeats 2000000
set_option maxRecDepth 10000
def mkL (k : Int) (n : Nat) : List Int := (List.range n).map fun (i : Nat) => k + (i : Int)
theorem mkL_len (k : Int) (n : Nat) : (mkL k n).length = n := by simp [mkL]
theorem mkL_get {k : Int} {n i : Nat} {x : Int} (h : (mkL k n)[i]? = some x) : x = k + i := by
  simp only [mkL, List.getElem?_map] at h
  obtain ⟨y, h1, rfl⟩ := Option.map_eq_some_iff.1 h
  rw [List.getElem?_range (by have := (List.getElem?_eq_some_iff.1 h1).1; simpa using this)] at h1
  simp at h1
  rw [h1]
theorem mkL_set {k : Int} {l : List Int} {i : Nat} (hi : i < l.length) : (mkL k i ++ l.drop i).set i (k + i) = mkL k (i + 1) ++ l.drop (i + 1) := by
  have e1 := mkL_len k i
  rw [List.set_append, if_neg (by omega), e1, Nat.sub_self, List.drop_eq_getElem_cons hi, List.set_cons_zero]
  simp [mkL, List.range_succ]
def c_laws_markIntS : Con := ⟨0, 3, false, fun xs hs _ K => match xs, hs with
  | [.own 0, .val (.int .i64 k)], [.iarr l] => 0 ≤ k ∧ k ≤ 100000000 ∧ l.length < 2000000 ∧ K (I (k + l.length)) [.iarr (mkL k l.length)] []
  | _, _ => False⟩
theorem k_laws_markIntS : Keeps' Tryd.prog 15 c_laws_markIntS := by
  refine keeps_of_vc mix TyT_ok (cok_stay cok_nil) Tryd.func15 rfl rfl rfl ?_
  intro aargs hs Fs K h
  simp only [c_laws_markIntS] at h
  split at h
  case h_2 => exact h.elim
  rename_i k l
  obtain ⟨h0, h1, hl, h⟩ := h
  repeat' (first
    | ((conv => whnf); (first
      | refine brK_dec (fun _ => ?_) (fun _ => ?_)
      | refine brK_ndec (fun _ => ?_) (fun _ => ?_)
      | refine brK_not (fun _ => ?_) (fun _ => ?_)
      | refine brK_in (fun _ => ?_) (fun _ => ?_)
      | refine And.intro (by first | exact rfl | exact ⟨_, rfl, rfl⟩ | exact ⟨rfl, rfl, rfl⟩ | exact of_decide_eq_true rfl | exact trivial | assumption | omega | (show (_ ≤ _ ∧ _ ≤ _); omega) | (simp; omega) | exact ⟨by first | omega | (simp; omega), _, rfl, rfl⟩) ?_
      | refine Both.mk ?_ ?_
      | refine Exists.intro _ (And.intro rfl ?_)
      | refine fun _ => ?_))
    | exact rfl)
  refine loop_in (ι := Nat) (fun i => mkS 19 [(0, .own 0), (1, I (k + i)), (4, I 0), (5, I i)] [.iarr (mkL k i ++ l.drop i)] Fs) (fun i => i ≤ l.length) (fun i => l.length - i) 0 [0] (Nat.zero_le _) ?_ ?_
  · repeat' (first
      | ((conv => whnf); (first
        | refine brK_dec (fun _ => ?_) (fun _ => ?_)
        | refine brK_ndec (fun _ => ?_) (fun _ => ?_)
        | refine brK_not (fun _ => ?_) (fun _ => ?_)
        | refine brK_in (fun _ => ?_) (fun _ => ?_)
        | refine And.intro (by first | exact rfl | exact (by simp) | exact ⟨_, rfl, rfl⟩ | exact ⟨rfl, rfl, rfl⟩ | exact of_decide_eq_true rfl | exact trivial | assumption | omega | (show (_ ≤ _ ∧ _ ≤ _); omega) | (simp; omega) | exact ⟨by first | omega | (simp; omega), _, rfl, rfl⟩) ?_
        | refine Both.mk ?_ ?_
        | refine Exists.intro _ (And.intro rfl ?_)
        | refine fun _ => ?_))
      | exact rfl)
  intro i hi
  have hlen : (mkL k i ++ l.drop i).length = l.length := by rw [List.length_append, mkL_len, List.length_drop]; omega
  repeat' (first
    | ((conv => whnf); (first
      | refine brK_dec (fun _ => ?_) (fun _ => ?_)
      | refine brK_ndec (fun _ => ?_) (fun _ => ?_)
      | refine brK_not (fun _ => ?_) (fun _ => ?_)
      | refine brK_in (fun _ => ?_) (fun _ => ?_)
      | refine And.intro (by first | exact rfl | exact ⟨_, rfl, rfl⟩ | exact ⟨rfl, rfl, rfl⟩ | exact of_decide_eq_true rfl | exact trivial | assumption | omega | (show (_ ≤ _ ∧ _ ≤ _); omega) | (simp; omega) | exact ⟨by first | omega | (simp; omega), _, rfl, rfl⟩) ?_
      | refine Both.mk ?_ ?_
      | refine Exists.intro _ (And.intro rfl ?_)
      | refine fun _ => ?_))
    | exact rfl)
  · rename_i hil
    have e := mkL_set (k := k) (l := l) (i := i) (by omega)
    refine ⟨i + 1, [0], by omega, by omega, ?_⟩
    repeat' (first
      | ((conv => whnf); (first
        | refine brK_dec (fun _ => ?_) (fun _ => ?_)
        | refine brK_ndec (fun _ => ?_) (fun _ => ?_)
        | refine brK_not (fun _ => ?_) (fun _ => ?_)
        | refine brK_in (fun _ => ?_) (fun _ => ?_)
        | refine And.intro (by first | exact rfl | exact e.symm | exact ⟨_, rfl, rfl⟩ | exact ⟨rfl, rfl, rfl⟩ | exact of_decide_eq_true rfl | exact trivial | assumption | omega | (show (_ ≤ _ ∧ _ ≤ _); omega) | (simp; omega) | exact ⟨by first | omega | (simp; omega), _, rfl, rfl⟩) ?_
        | refine Both.mk ?_ ?_
        | refine Exists.intro _ (And.intro rfl ?_)
        | refine fun _ => ?_))
      | exact rfl)
  · rename_i hil
    obtain rfl : i = l.length := by omega
    rw [List.drop_length, List.append_nil]
    exact h
def c_laws_heldIntS : Con := ⟨0, 0, false, fun xs hs _ K => match xs with
  | [.ints l, .val (.int .i64 k)] => hs = [] ∧ 0 ≤ k ∧ k ≤ 100000000 ∧ l.length < 2000000 ∧ l = mkL k l.length ∧ K (I (k + l.length)) [] []
  | _ => False⟩
theorem k_laws_heldIntS : Keeps' Tryd.prog 47 c_laws_heldIntS := by
  refine keeps_of_vc mix TyT_ok cok_nil Tryd.func47 rfl rfl rfl ?_
  intro aargs hs Fs K h
  simp only [c_laws_heldIntS] at h
  split at h
  case h_2 => exact h.elim
  rename_i l k
  obtain ⟨rfl, h0, h1, hl, hm, h⟩ := h
  repeat' (first
    | ((conv => whnf); (first
      | refine brK_dec (fun _ => ?_) (fun _ => ?_)
      | refine brK_ndec (fun _ => ?_) (fun _ => ?_)
      | refine brK_not (fun _ => ?_) (fun _ => ?_)
      | refine brK_in (fun _ => ?_) (fun _ => ?_)
      | refine And.intro (by first | exact rfl | exact ⟨_, rfl, rfl⟩ | exact ⟨rfl, rfl, rfl⟩ | exact of_decide_eq_true rfl | exact trivial | assumption | omega | (show (_ ≤ _ ∧ _ ≤ _); omega) | (simp; omega) | exact ⟨by first | omega | (simp; omega), _, rfl, rfl⟩) ?_
      | refine Both.mk ?_ ?_
      | refine Exists.intro _ (And.intro rfl ?_)
      | refine fun _ => ?_))
    | exact rfl)
  refine loop_in (ι := Nat) (fun i => mkS 21 [(0, .ints l), (1, I (k + i)), (4, I 0), (5, I i)] [] Fs) (fun i => i ≤ l.length) (fun i => l.length - i) 0 [] (Nat.zero_le _) ?_ ?_
  · repeat' (first
      | ((conv => whnf); (first
        | refine brK_dec (fun _ => ?_) (fun _ => ?_)
        | refine brK_ndec (fun _ => ?_) (fun _ => ?_)
        | refine brK_not (fun _ => ?_) (fun _ => ?_)
        | refine brK_in (fun _ => ?_) (fun _ => ?_)
        | refine And.intro (by first | exact rfl | exact ⟨_, rfl, rfl⟩ | exact ⟨rfl, rfl, rfl⟩ | exact of_decide_eq_true rfl | exact trivial | assumption | omega | (show (_ ≤ _ ∧ _ ≤ _); omega) | (simp; omega) | exact ⟨by first | omega | (simp; omega), _, rfl, rfl⟩) ?_
        | refine Both.mk ?_ ?_
        | refine Exists.intro _ (And.intro rfl ?_)
        | refine fun _ => ?_))
      | exact rfl)
  intro i hi
  repeat' (first
    | ((conv => whnf); (first
      | refine brK_dec (fun _ => ?_) (fun _ => ?_)
      | refine brK_ndec (fun _ => ?_) (fun _ => ?_)
      | refine brK_not (fun _ => ?_) (fun _ => ?_)
      | refine brK_in (fun _ => ?_) (fun _ => ?_)
      | refine And.intro (by first | exact rfl | exact ⟨_, rfl, rfl⟩ | exact ⟨rfl, rfl, rfl⟩ | exact of_decide_eq_true rfl | exact trivial | assumption | omega | (show (_ ≤ _ ∧ _ ≤ _); omega) | (simp; omega) | exact ⟨by first | omega | (simp; omega), _, rfl, rfl⟩) ?_
      | refine Both.mk ?_ ?_
      | refine Exists.intro _ (And.intro rfl ?_)
      | refine fun _ => ?_))
    | exact rfl)
  · rename_i hil x hx hne
    have hx : l[i]? = some x := hx
    rw [hm] at hx
    exact absurd (mkL_get hx) hne
  · rename_i hil x hx hne
    refine ⟨i + 1, [], by omega, by omega, ?_⟩
    repeat' (first
      | ((conv => whnf); (first
        | refine brK_dec (fun _ => ?_) (fun _ => ?_)
        | refine brK_ndec (fun _ => ?_) (fun _ => ?_)
        | refine brK_not (fun _ => ?_) (fun _ => ?_)
        | refine brK_in (fun _ => ?_) (fun _ => ?_)
        | refine And.intro (by first | exact rfl | exact ⟨_, rfl, rfl⟩ | exact ⟨rfl, rfl, rfl⟩ | exact of_decide_eq_true rfl | exact trivial | assumption | omega | (show (_ ≤ _ ∧ _ ≤ _); omega) | (simp; omega) | exact ⟨by first | omega | (simp; omega), _, rfl, rfl⟩) ?_
        | refine Both.mk ?_ ?_
        | refine Exists.intro _ (And.intro rfl ?_)
        | refine fun _ => ?_))
      | exact rfl)
  · rename_i hil
    obtain rfl : i = l.length := by omega
    exact h
/-- The mark of a slice that is nil. -/
def c_laws_markN : Con := ⟨0, 3, false, fun xs hs _ K => match xs, hs with
  | [.val (.slice none 0 0), .val (.int .i64 k)], [] => 0 ≤ k ∧ k ≤ 100000000 ∧ K (I k) [] []
  | _, _ => False⟩
theorem k_laws_markIntS_n : Keeps' Tryd.prog 15 c_laws_markN := by
  refine keeps_of_vc mix TyT_ok (cok_stay cok_nil) Tryd.func15 rfl rfl rfl ?_
  intro aargs hs Fs K h
  simp only [c_laws_markN] at h
  split at h
  case h_2 => exact h.elim
  rename_i k
  obtain ⟨h0, h1, h⟩ := h
  repeat' (first
    | ((conv => whnf); (first
      | refine brK_dec (fun _ => ?_) (fun _ => ?_)
      | refine brK_ndec (fun _ => ?_) (fun _ => ?_)
      | refine brK_not (fun _ => ?_) (fun _ => ?_)
      | refine brK_in (fun _ => ?_) (fun _ => ?_)
      | refine And.intro (by first | exact rfl | exact ⟨_, rfl, rfl⟩ | exact ⟨rfl, rfl, rfl⟩ | exact of_decide_eq_true rfl | exact trivial | assumption | omega | (show (_ ≤ _ ∧ _ ≤ _); omega) | (simp; omega) | exact ⟨by first | omega | (simp; omega), _, rfl, rfl⟩) ?_
      | refine Both.mk ?_ ?_
      | refine Exists.intro _ (And.intro rfl ?_)
      | refine fun _ => ?_))
    | exact rfl)
  refine loop_in (ι := Unit) (fun _ => mkS 19 [(0, .val (.slice none 0 0)), (1, I k), (4, I 0), (5, I 0)] [] Fs) (fun _ => True) (fun _ => 0) () [] trivial ?_ ?_
  · repeat' (first
      | ((conv => whnf); (first
        | refine brK_dec (fun _ => ?_) (fun _ => ?_)
        | refine brK_ndec (fun _ => ?_) (fun _ => ?_)
        | refine brK_not (fun _ => ?_) (fun _ => ?_)
        | refine brK_in (fun _ => ?_) (fun _ => ?_)
        | refine And.intro (by first | exact rfl | exact ⟨_, rfl, rfl⟩ | exact ⟨rfl, rfl, rfl⟩ | exact of_decide_eq_true rfl | exact trivial | assumption | omega | (show (_ ≤ _ ∧ _ ≤ _); omega) | (simp; omega) | exact ⟨by first | omega | (simp; omega), _, rfl, rfl⟩) ?_
        | refine Both.mk ?_ ?_
        | refine Exists.intro _ (And.intro rfl ?_)
        | refine fun _ => ?_))
      | exact rfl)
  intro _ _
  repeat' (first
    | ((conv => whnf); (first
      | refine brK_dec (fun _ => ?_) (fun _ => ?_)
      | refine brK_ndec (fun _ => ?_) (fun _ => ?_)
      | refine brK_not (fun _ => ?_) (fun _ => ?_)
      | refine brK_in (fun _ => ?_) (fun _ => ?_)
      | refine And.intro (by first | exact rfl | exact ⟨_, rfl, rfl⟩ | exact ⟨rfl, rfl, rfl⟩ | exact of_decide_eq_true rfl | exact trivial | assumption | omega | (show (_ ≤ _ ∧ _ ≤ _); omega) | (simp; omega) | exact ⟨by first | omega | (simp; omega), _, rfl, rfl⟩) ?_
      | refine Both.mk ?_ ?_
      | refine Exists.intro _ (And.intro rfl ?_)
      | refine fun _ => ?_))
    | exact rfl)
  exact h
end Go.Proofs.YtlhbdhccddadaaaDoor
