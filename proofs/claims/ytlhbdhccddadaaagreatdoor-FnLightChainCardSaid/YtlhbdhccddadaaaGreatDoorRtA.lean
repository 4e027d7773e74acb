/-
Trees of digests by the reference: its roots and proofs, in short.
No conditions.
-/
import Derived.Test.YtlhbdhccddadaaaGreatDoorRcA
namespace Go.Proofs.YtlhbdhccddadaaaGreatDoor
open Go Go.Vc
set_option maxHeartbeats 2000000
set_option maxRecDepth 10000
def dgs (l : List Int) : Prop := ∀ x ∈ l, 0 ≤ x ∧ x ≤ 990
def c_spec_l2Leaves : Con := ⟨0, 0, false, fun xs hs _ K => match xs with
  | [.ints l] => hs = [] ∧ l.length < 2000000 ∧ Both (dgs l ∧ 1 ≤ l.length ∧ l.length ≤ 16 → K (B true) [] []) (K (B false) [] [])
  | _ => False⟩
theorem k_spec_l2Leaves : Keeps' Tryz.prog 108 c_spec_l2Leaves := by
  refine keeps_of_vc mix TyT_ok (cok_cons k_spec_l2Digest Tryz.func55 rfl rfl (cok_cons k_spec_l6In Tryz.func54 rfl rfl cok_nil)) Tryz.func108 rfl rfl rfl ?_
  intro aargs hs Fs K h
  simp only [c_spec_l2Leaves] at h
  split at h
  case h_2 => exact h.elim
  rename_i l
  obtain ⟨rfl, hl, h⟩ := h
  have h1 := h.l
  have h2 := h.r
  repeat' (first
    | ((conv => whnf); (first
      | refine brK_dec (fun _ => ?_) (fun _ => ?_)
      | refine brK_ndec (fun _ => ?_) (fun _ => ?_)
      | refine brK_not (fun _ => ?_) (fun _ => ?_)
      | refine brK_in (fun _ => ?_) (fun _ => ?_)
      | refine And.intro (by first | exact rfl | exact ⟨_, rfl, rfl⟩ | exact ⟨rfl, rfl, rfl⟩ | exact of_decide_eq_true rfl | exact trivial | assumption | omega | (show (_ ≤ _ ∧ _ ≤ _); omega) | (simp; omega) | exact ⟨by first | omega | (simp; omega), _, rfl, rfl⟩) ?_
      | refine Both.mk ?_ ?_
      | refine Exists.intro _ (And.intro rfl ?_)
      | refine fun _ => ?_))
    | exact rfl)
  refine loop_in (ι := Nat) (fun i => mkS 19 [(0, .ints l), (2, B false), (3, I i)] [] Fs) (fun i => i ≤ l.length ∧ ∀ y ∈ l.take i, 0 ≤ y ∧ y ≤ 990) (fun i => l.length - i) 0 [] ⟨Nat.zero_le _, by simp⟩ ?_ ?_
  · repeat' (first
      | ((conv => whnf); (first
        | refine brK_dec (fun _ => ?_) (fun _ => ?_)
        | refine brK_ndec (fun _ => ?_) (fun _ => ?_)
        | refine brK_not (fun _ => ?_) (fun _ => ?_)
        | refine brK_in (fun _ => ?_) (fun _ => ?_)
        | refine And.intro (by first | exact rfl | exact ⟨_, rfl, rfl⟩ | exact ⟨rfl, rfl, rfl⟩ | exact of_decide_eq_true rfl | exact trivial | assumption | omega | (show (_ ≤ _ ∧ _ ≤ _); omega) | (simp; omega) | exact ⟨by first | omega | (simp; omega), _, rfl, rfl⟩) ?_
        | refine Both.mk ?_ ?_
        | refine Exists.intro _ (And.intro rfl ?_)
        | refine fun _ => ?_))
      | exact rfl)
  intro i ⟨hi, hall⟩
  repeat' (first
    | ((conv => whnf); (first
      | refine brK_dec (fun _ => ?_) (fun _ => ?_)
      | refine brK_ndec (fun _ => ?_) (fun _ => ?_)
      | refine brK_not (fun _ => ?_) (fun _ => ?_)
      | refine brK_in (fun _ => ?_) (fun _ => ?_)
      | refine And.intro (by first | exact rfl | exact ⟨_, rfl, rfl⟩ | exact ⟨rfl, rfl, rfl⟩ | exact of_decide_eq_true rfl | exact trivial | assumption | omega | (show (_ ≤ _ ∧ _ ≤ _); omega) | (simp; omega) | exact ⟨by first | omega | (simp; omega), _, rfl, rfl⟩) ?_
      | refine Both.mk ?_ ?_
      | refine Exists.intro _ (And.intro rfl ?_)
      | refine fun _ => ?_))
    | exact rfl)
  · exact h2
  · rename_i hil x hx q
    refine ⟨i + 1, [], ⟨by omega, ?_⟩, by omega, ?_⟩
    · intro y hy
      have hx : l[i]? = some x := hx
      rw [List.take_add_one, hx] at hy
      rcases List.mem_append.1 hy with hy | hy
      · exact hall y hy
      · simp at hy
        rw [hy]; exact inR_out q
    · repeat' (first
        | ((conv => whnf); (first
          | refine brK_dec (fun _ => ?_) (fun _ => ?_)
          | refine brK_ndec (fun _ => ?_) (fun _ => ?_)
          | refine brK_not (fun _ => ?_) (fun _ => ?_)
          | refine brK_in (fun _ => ?_) (fun _ => ?_)
          | refine And.intro (by first | exact rfl | exact ⟨_, rfl, rfl⟩ | exact ⟨rfl, rfl, rfl⟩ | exact of_decide_eq_true rfl | exact trivial | assumption | omega | (show (_ ≤ _ ∧ _ ≤ _); omega) | (simp; omega) | exact ⟨by first | omega | (simp; omega), _, rfl, rfl⟩) ?_
          | refine Both.mk ?_ ?_
          | refine Exists.intro _ (And.intro rfl ?_)
          | refine fun _ => ?_))
        | exact rfl)
  · rename_i hil
    rw [List.take_of_length_le (by omega)] at hall
    rcases Bool.eq_false_or_eq_true (inR (l.length : Int) 1 16) with q | q
    · have := inR_out q
      have h9 := h1 ⟨hall, by omega, by omega⟩
      rw [← q] at h9
      exact h9
    · rw [← q] at h2
      exact h2
def c_spec_l2Up : Con := ⟨1, 0, false, fun xs hs _ K => match xs with
  | [.ints l] => hs = [] ∧ l.length ≤ 20 ∧ dgs l ∧ ∀ l', dgs l' → l'.length = (l.length + 1) / 2 → K (.own 0) [.iarr l'] []
  | _ => False⟩
theorem dgs_app {l : List Int} {x : Int} (h : dgs l) (hx : 0 ≤ x ∧ x ≤ 990) : dgs (l ++ [x]) := by
  intro y hy
  rcases List.mem_append.1 hy with hy | hy
  · exact h y hy
  · simp at hy
    rw [hy]; exact hx
theorem k_spec_l2Up : Keeps' Tryz.prog 109 c_spec_l2Up := by
  refine keeps_of_vc mix TyT_ok (cok_cons k_spec_l2Pair Tryz.func112 rfl rfl cok_nil) Tryz.func109 rfl rfl rfl ?_
  intro aargs hs Fs K h
  simp only [c_spec_l2Up] at h
  split at h
  case h_2 => exact h.elim
  rename_i l
  obtain ⟨rfl, hl, hd, h⟩ := h
  repeat' (first
    | ((conv => whnf); (first
      | refine brK_dec (fun _ => ?_) (fun _ => ?_)
      | refine brK_ndec (fun _ => ?_) (fun _ => ?_)
      | refine brK_not (fun _ => ?_) (fun _ => ?_)
      | refine brK_in (fun _ => ?_) (fun _ => ?_)
      | refine And.intro (by first | exact rfl | exact ⟨_, rfl, rfl⟩ | exact ⟨rfl, rfl, rfl⟩ | exact of_decide_eq_true rfl | exact trivial | assumption | omega | (show (_ ≤ _ ∧ _ ≤ _); omega) | (simp; omega) | exact ⟨by first | omega | (simp; omega), _, rfl, rfl⟩) ?_
      | refine Both.mk ?_ ?_
      | refine Exists.intro _ (And.intro rfl ?_)
      | refine fun _ => ?_))
    | exact rfl)
  refine loop_in (ι := Nat × List Int) (fun g => mkS 38 [(0, .ints l), (2, .val (.slice none 0 0)), (3, .own 0), (4, I (2 * (g.1 : Int)))] [.iarr g.2] Fs) (fun g => g.1 ≤ (l.length + 1) / 2 ∧ g.2.length = g.1 ∧ dgs g.2) (fun g => l.length - g.1) (0, []) [0] ⟨Nat.zero_le _, rfl, fun x hx => by cases hx⟩ ?_ ?_
  · repeat' (first
      | ((conv => whnf); (first
        | refine brK_dec (fun _ => ?_) (fun _ => ?_)
        | refine brK_ndec (fun _ => ?_) (fun _ => ?_)
        | refine brK_not (fun _ => ?_) (fun _ => ?_)
        | refine brK_in (fun _ => ?_) (fun _ => ?_)
        | refine And.intro (by first | exact rfl | exact ⟨_, rfl, rfl⟩ | exact ⟨rfl, rfl, rfl⟩ | exact of_decide_eq_true rfl | exact trivial | assumption | omega | (show (_ ≤ _ ∧ _ ≤ _); omega) | (simp; omega) | exact ⟨by first | omega | (simp; omega), _, rfl, rfl⟩) ?_
        | refine Both.mk ?_ ?_
        | refine Exists.intro _ (And.intro rfl ?_)
        | refine fun _ => ?_))
      | exact rfl)
  rintro ⟨i, o⟩ ⟨hi, ho, hdo⟩
  dsimp only at hi ho hdo ⊢
  repeat' (first
    | ((conv => whnf); (first
      | refine draw_plan (id := 6) [0] [] (.take 0 (.take 1 (.take 2 (.take 3 (.take 4 (.take 5 (.take 6 (.take 7 (.take 8 (.take 9 (.run 10 (.run 11 (.run 12 (.take 13 .done)))))))))))))) (by kernel_rfl) (by kernel_rfl) ?_
      | refine brK_dec (fun _ => ?_) (fun _ => ?_)
      | refine brK_ndec (fun _ => ?_) (fun _ => ?_)
      | refine brK_not (fun _ => ?_) (fun _ => ?_)
      | refine brK_in (fun _ => ?_) (fun _ => ?_)
      | refine And.intro (by first | exact rfl | exact ⟨_, rfl, rfl⟩ | exact ⟨rfl, rfl, rfl⟩ | exact of_decide_eq_true rfl | exact trivial | assumption | omega | (show (_ ≤ _ ∧ _ ≤ _); omega) | (simp; omega) | exact ⟨by first | omega | (simp; omega), _, rfl, rfl⟩) ?_
      | refine Both.mk ?_ ?_
      | refine Exists.intro _ (And.intro rfl ?_)
      | refine fun _ => ?_))
    | exact rfl)
  · rename_i hil hil2 x hx y hy
    have hx1 := hd x (List.mem_of_getElem? hx)
    have hy1 := hd y (List.mem_of_getElem? hy)
    repeat' (first
      | ((conv => whnf); (first
        | refine draw_plan (id := 6) [0] [] (.take 0 (.take 1 (.take 2 (.take 3 (.take 4 (.take 5 (.take 6 (.take 7 (.take 8 (.take 9 (.run 10 (.run 11 (.run 12 (.take 13 .done)))))))))))))) (by kernel_rfl) (by kernel_rfl) ?_
        | refine brK_dec (fun _ => ?_) (fun _ => ?_)
        | refine brK_ndec (fun _ => ?_) (fun _ => ?_)
        | refine brK_not (fun _ => ?_) (fun _ => ?_)
        | refine brK_in (fun _ => ?_) (fun _ => ?_)
        | refine And.intro (by first | exact rfl | exact ⟨_, rfl, rfl⟩ | exact ⟨rfl, rfl, rfl⟩ | exact of_decide_eq_true rfl | exact trivial | assumption | omega | (show (_ ≤ _ ∧ _ ≤ _); omega) | (simp; omega) | exact ⟨by first | omega | (simp; omega), _, rfl, rfl⟩) ?_
        | refine Both.mk ?_ ?_
        | refine Exists.intro _ (And.intro rfl ?_)
        | refine fun _ => ?_))
      | exact rfl)
    refine ⟨(i + 1, o ++ [hp x y]), [0], ⟨by dsimp only; omega, by dsimp only; simp; omega, dgs_app hdo (hp_rng _ _)⟩, by dsimp only; omega, ?_⟩
    repeat' (first
      | ((conv => whnf); (first
        | refine brK_dec (fun _ => ?_) (fun _ => ?_)
        | refine brK_ndec (fun _ => ?_) (fun _ => ?_)
        | refine brK_not (fun _ => ?_) (fun _ => ?_)
        | refine brK_in (fun _ => ?_) (fun _ => ?_)
        | refine And.intro (by first | exact rfl | exact (by first | (rw [List.take_length]; done) | (simp; done)) | exact ⟨_, rfl, rfl⟩ | exact ⟨rfl, rfl, rfl⟩ | exact of_decide_eq_true rfl | exact trivial | assumption | omega | (show (_ ≤ _ ∧ _ ≤ _); omega) | (simp; omega) | exact ⟨by first | omega | (simp; omega), _, rfl, rfl⟩) ?_
        | refine Both.mk ?_ ?_
        | refine Exists.intro _ (And.intro rfl ?_)
        | refine fun _ => ?_))
      | exact rfl)
  · rename_i hil hil2 x hx
    have hx1 := hd x (List.mem_of_getElem? hx)
    refine ⟨(i + 1, o ++ [x]), [0], ⟨by dsimp only; omega, by dsimp only; simp; omega, dgs_app hdo hx1⟩, by dsimp only; omega, ?_⟩
    repeat' (first
      | ((conv => whnf); (first
        | refine brK_dec (fun _ => ?_) (fun _ => ?_)
        | refine brK_ndec (fun _ => ?_) (fun _ => ?_)
        | refine brK_not (fun _ => ?_) (fun _ => ?_)
        | refine brK_in (fun _ => ?_) (fun _ => ?_)
        | refine And.intro (by first | exact rfl | exact (by first | (rw [List.take_length]; done) | (simp; done)) | exact ⟨_, rfl, rfl⟩ | exact ⟨rfl, rfl, rfl⟩ | exact of_decide_eq_true rfl | exact trivial | assumption | omega | (show (_ ≤ _ ∧ _ ≤ _); omega) | (simp; omega) | exact ⟨by first | omega | (simp; omega), _, rfl, rfl⟩) ?_
        | refine Both.mk ?_ ?_
        | refine Exists.intro _ (And.intro rfl ?_)
        | refine fun _ => ?_))
      | exact rfl)
  · exact h _ hdo (by omega)
def c_spec_MerkleRoot : Con := ⟨0, 0, false, fun xs hs _ K => match xs with
  | [.ints l] => hs = [] ∧ l.length < 2000000 ∧ ∀ v, -1 ≤ v → v ≤ 990 → K (I v) [] []
  | _ => False⟩
theorem k_spec_MerkleRoot : Keeps' Tryz.prog 74 c_spec_MerkleRoot := by
  refine keeps_of_vc mix TyT_ok (cok_cons k_spec_l2Leaves Tryz.func108 rfl rfl (cok_cons k_spec_l2Up Tryz.func109 rfl rfl cok_nil)) Tryz.func74 rfl rfl rfl ?_
  intro aargs hs Fs K h
  simp only [c_spec_MerkleRoot] at h
  split at h
  case h_2 => exact h.elim
  rename_i l
  obtain ⟨rfl, hl, h⟩ := h
  repeat' (first
    | ((conv => whnf); (first
      | refine brK_dec (fun _ => ?_) (fun _ => ?_)
      | refine brK_ndec (fun _ => ?_) (fun _ => ?_)
      | refine brK_not (fun _ => ?_) (fun _ => ?_)
      | refine brK_in (fun _ => ?_) (fun _ => ?_)
      | refine And.intro (by first | exact rfl | exact ⟨_, rfl, rfl⟩ | exact ⟨rfl, rfl, rfl⟩ | exact of_decide_eq_true rfl | exact trivial | assumption | omega | (show (_ ≤ _ ∧ _ ≤ _); omega) | (simp; omega) | exact ⟨by first | omega | (simp; omega), _, rfl, rfl⟩) ?_
      | refine Both.mk ?_ ?_
      | refine Exists.intro _ (And.intro rfl ?_)
      | refine fun _ => ?_))
    | exact rfl)
  rotate_left
  · exact h _ (by omega) (by omega)
  rename_i hd
  refine loop_in (ι := List Int) (fun lv => mkS 16 [(0, .ints l), (2, I 0), (3, .ints lv)] [] Fs) (fun lv => 1 ≤ lv.length ∧ lv.length ≤ 16 ∧ dgs lv) (fun lv => lv.length) l [] ⟨hd.2.1, hd.2.2, hd.1⟩ ?_ ?_
  · repeat' (first
      | ((conv => whnf); (first
        | refine brK_dec (fun _ => ?_) (fun _ => ?_)
        | refine brK_ndec (fun _ => ?_) (fun _ => ?_)
        | refine brK_not (fun _ => ?_) (fun _ => ?_)
        | refine brK_in (fun _ => ?_) (fun _ => ?_)
        | refine And.intro (by first | exact rfl | exact ⟨_, rfl, rfl⟩ | exact ⟨rfl, rfl, rfl⟩ | exact of_decide_eq_true rfl | exact trivial | assumption | omega | (show (_ ≤ _ ∧ _ ≤ _); omega) | (simp; omega) | exact ⟨by first | omega | (simp; omega), _, rfl, rfl⟩) ?_
        | refine Both.mk ?_ ?_
        | refine Exists.intro _ (And.intro rfl ?_)
        | refine fun _ => ?_))
      | exact rfl)
  intro lv ⟨h1, h2, h3⟩
  repeat' (first
    | ((conv => whnf); (first
      | refine brK_dec (fun _ => ?_) (fun _ => ?_)
      | refine brK_ndec (fun _ => ?_) (fun _ => ?_)
      | refine brK_not (fun _ => ?_) (fun _ => ?_)
      | refine brK_in (fun _ => ?_) (fun _ => ?_)
      | refine And.intro (by first | exact rfl | exact ⟨_, rfl, rfl⟩ | exact ⟨rfl, rfl, rfl⟩ | exact of_decide_eq_true rfl | exact trivial | assumption | omega | (show (_ ≤ _ ∧ _ ≤ _); omega) | (simp; omega) | exact ⟨by first | omega | (simp; omega), _, rfl, rfl⟩) ?_
      | refine Both.mk ?_ ?_
      | refine Exists.intro _ (And.intro rfl ?_)
      | refine fun _ => ?_))
    | exact rfl)
  · rename_i hgt l' hl' hlen
    refine ⟨l', [], ⟨by omega, by omega, hl'⟩, by omega, ?_⟩
    repeat' (first
      | ((conv => whnf); (first
        | refine brK_dec (fun _ => ?_) (fun _ => ?_)
        | refine brK_ndec (fun _ => ?_) (fun _ => ?_)
        | refine brK_not (fun _ => ?_) (fun _ => ?_)
        | refine brK_in (fun _ => ?_) (fun _ => ?_)
        | refine And.intro (by first | exact rfl | exact ⟨_, rfl, rfl⟩ | exact ⟨rfl, rfl, rfl⟩ | exact of_decide_eq_true rfl | exact trivial | assumption | omega | (show (_ ≤ _ ∧ _ ≤ _); omega) | (simp; omega) | exact ⟨by first | omega | (simp; omega), _, rfl, rfl⟩) ?_
        | refine Both.mk ?_ ?_
        | refine Exists.intro _ (And.intro rfl ?_)
        | refine fun _ => ?_))
      | exact rfl)
  · rename_i hgt x hx
    have := h3 x (List.mem_of_getElem? hx)
    exact h _ (by omega) (by omega)
def c_spec_MerkleProof : Con := ⟨1, 0, false, fun xs hs _ K => match xs with
  | [.ints l, .val (.int .i64 _)] => hs = [] ∧ l.length < 2000000 ∧ ∀ l', l'.length ≤ 30 → K (.own 0) [.iarr l'] []
  | _ => False⟩
theorem k_spec_MerkleProof : Keeps' Tryz.prog 107 c_spec_MerkleProof := by
  refine keeps_of_vc mix TyT_ok (cok_cons k_spec_l2Leaves Tryz.func108 rfl rfl (cok_cons k_spec_l6In Tryz.func54 rfl rfl (cok_cons k_spec_l2Up Tryz.func109 rfl rfl cok_nil))) Tryz.func107 rfl rfl rfl ?_
  intro aargs hs Fs K h
  simp only [c_spec_MerkleProof] at h
  split at h
  case h_2 => exact h.elim
  rename_i l k
  obtain ⟨rfl, hl, h⟩ := h
  repeat' (first
    | ((conv => whnf); (first
      | refine brK_dec (fun _ => ?_) (fun _ => ?_)
      | refine brK_ndec (fun _ => ?_) (fun _ => ?_)
      | refine brK_not (fun _ => ?_) (fun _ => ?_)
      | refine brK_in (fun _ => ?_) (fun _ => ?_)
      | refine And.intro (by first | exact rfl | exact ⟨_, rfl, rfl⟩ | exact ⟨rfl, rfl, rfl⟩ | exact of_decide_eq_true rfl | exact trivial | assumption | omega | (show (_ ≤ _ ∧ _ ≤ _); omega) | (simp; omega) | exact ⟨by first | omega | (simp; omega), _, rfl, rfl⟩) ?_
      | refine Both.mk ?_ ?_
      | refine Exists.intro _ (And.intro rfl ?_)
      | refine fun _ => ?_))
    | exact rfl)
  all_goals first
    | exact h _ (by simp)
    | skip
  rename_i hd q
  have hk := inR_out q
  refine loop_in (ι := List Int × List Int × Int) (fun g => mkS 47 [(0, .ints l), (1, I g.2.2), (4, .val (.slice none 0 0)), (5, .own 0), (6, .ints g.1)] [.iarr g.2.1] Fs) (fun g => 1 ≤ g.1.length ∧ g.1.length + g.2.1.length ≤ 16 ∧ dgs g.1 ∧ 0 ≤ g.2.2 ∧ g.2.2 < g.1.length) (fun g => g.1.length) (l, [], k) [0] ⟨hd.2.1, by simpa using hd.2.2, hd.1, by dsimp only; omega, by dsimp only; omega⟩ ?_ ?_
  · repeat' (first
      | ((conv => whnf); (first
        | refine brK_dec (fun _ => ?_) (fun _ => ?_)
        | refine brK_ndec (fun _ => ?_) (fun _ => ?_)
        | refine brK_not (fun _ => ?_) (fun _ => ?_)
        | refine brK_in (fun _ => ?_) (fun _ => ?_)
        | refine And.intro (by first | exact rfl | exact ⟨_, rfl, rfl⟩ | exact ⟨rfl, rfl, rfl⟩ | exact of_decide_eq_true rfl | exact trivial | assumption | omega | (show (_ ≤ _ ∧ _ ≤ _); omega) | (simp; omega) | exact ⟨by first | omega | (simp; omega), _, rfl, rfl⟩) ?_
        | refine Both.mk ?_ ?_
        | refine Exists.intro _ (And.intro rfl ?_)
        | refine fun _ => ?_))
      | exact rfl)
  rintro ⟨lv, o, i⟩ ⟨h1, h2, h3, h4, h5⟩
  dsimp only at h1 h2 h3 h4 h5 ⊢
  repeat' (first
    | ((conv => whnf); (first
      | refine brK_dec (fun _ => ?_) (fun _ => ?_)
      | refine brK_ndec (fun _ => ?_) (fun _ => ?_)
      | refine brK_not (fun _ => ?_) (fun _ => ?_)
      | refine brK_in (fun _ => ?_) (fun _ => ?_)
      | refine And.intro (by first | exact rfl | exact ⟨_, rfl, rfl⟩ | exact ⟨rfl, rfl, rfl⟩ | exact of_decide_eq_true rfl | exact trivial | assumption | omega | (show (_ ≤ _ ∧ _ ≤ _); omega) | (simp; omega) | exact ⟨by first | omega | (simp; omega), _, rfl, rfl⟩) ?_
      | refine Both.mk ?_ ?_
      | refine Exists.intro _ (And.intro rfl ?_)
      | refine fun _ => ?_))
    | exact rfl)
  · rename_i hgt hs x hx l' hl' hlen
    refine ⟨(l', o ++ [x], i / 2), [0], ⟨by dsimp only; omega, by dsimp only; simp; omega, hl', by dsimp only; omega, by dsimp only; omega⟩, by dsimp only; omega, ?_⟩
    repeat' (first
      | ((conv => whnf); (first
        | refine brK_dec (fun _ => ?_) (fun _ => ?_)
        | refine brK_ndec (fun _ => ?_) (fun _ => ?_)
        | refine brK_not (fun _ => ?_) (fun _ => ?_)
        | refine brK_in (fun _ => ?_) (fun _ => ?_)
        | refine And.intro (by first | exact rfl | exact (by first | (rw [List.take_length]; done) | (simp; done)) | exact ⟨_, rfl, rfl⟩ | exact ⟨rfl, rfl, rfl⟩ | exact of_decide_eq_true rfl | exact trivial | assumption | omega | (show (_ ≤ _ ∧ _ ≤ _); omega) | (simp; omega) | exact ⟨by first | omega | (simp; omega), _, rfl, rfl⟩) ?_
        | refine Both.mk ?_ ?_
        | refine Exists.intro _ (And.intro rfl ?_)
        | refine fun _ => ?_))
      | exact rfl)
  · rename_i hgt hs l' hl' hlen
    refine ⟨(l', o, i / 2), [0], ⟨by dsimp only; omega, by dsimp only; omega, hl', by dsimp only; omega, by dsimp only; omega⟩, by dsimp only; omega, ?_⟩
    repeat' (first
      | ((conv => whnf); (first
        | refine brK_dec (fun _ => ?_) (fun _ => ?_)
        | refine brK_ndec (fun _ => ?_) (fun _ => ?_)
        | refine brK_not (fun _ => ?_) (fun _ => ?_)
        | refine brK_in (fun _ => ?_) (fun _ => ?_)
        | refine And.intro (by first | exact rfl | exact ⟨_, rfl, rfl⟩ | exact ⟨rfl, rfl, rfl⟩ | exact of_decide_eq_true rfl | exact trivial | assumption | omega | (show (_ ≤ _ ∧ _ ≤ _); omega) | (simp; omega) | exact ⟨by first | omega | (simp; omega), _, rfl, rfl⟩) ?_
        | refine Both.mk ?_ ?_
        | refine Exists.intro _ (And.intro rfl ?_)
        | refine fun _ => ?_))
      | exact rfl)
  · exact h _ (by omega)
end Go.Proofs.YtlhbdhccddadaaaGreatDoor
