/-
The validity of an epoch: the program's functions.
No conditions.
-/
import Derived.Test.YtalbgcpfekmfoaaEvA
namespace Go.Proofs.Ytalbgcpfekmfoaa
open Go Go.Vc
set_option maxHeartbeats 1000000
set_option maxRecDepth 10000
def c_impl_isDigest : Con := ⟨0, 0, false, fun xs hs _ K => match xs with
  | [.val (.int .i64 a)] => hs = [] ∧ K (B (inR a 0 990)) [] []
  | _ => False⟩
theorem k_impl_isDigest : Keeps' Try.prog 60 c_impl_isDigest := by
  refine keeps_of_vc mix TyT_ok cok_nil Try.func60 rfl rfl rfl ?_
  intro aargs hs Fs K h
  simp only [c_impl_isDigest] at h
  split at h
  case h_2 => exact h.elim
  rename_i a
  obtain ⟨rfl, h⟩ := h
  have no : ∀ {b : Bool}, inR a 0 990 = b → K (B b) [] [] := fun e => by rw [← e]; exact h
  repeat' (first
    | ((conv => whnf); (first
      | refine brK_dec (fun _ => ?_) (fun _ => ?_)
      | refine brK_ndec (fun _ => ?_) (fun _ => ?_)
      | refine brK_not (fun _ => ?_) (fun _ => ?_)
      | refine brK_in (fun _ => ?_) (fun _ => ?_)
      | refine And.intro (by first | exact rfl | exact ⟨_, rfl, rfl⟩ | exact ⟨rfl, rfl, rfl⟩ | exact of_decide_eq_true rfl | exact trivial | assumption | omega | (show (_ ≤ _ ∧ _ ≤ _); omega) | (simp; omega) | exact ⟨by first | omega | (simp; omega), _, rfl, rfl⟩) ?_
      | refine Quo.l (And.intro (by first | exact rfl | assumption | omega | (simp; omega)) ?_)
      | refine Quo.r (And.intro (by omega) ?_)
      | refine Both.mk ?_ ?_
      | refine Exists.intro _ (And.intro rfl ?_)
      | refine fun _ => ?_))
    | exact rfl)
  · rename_i h1; exact no (by rw [Bool.eq_iff_iff]; simp [inR]; omega)
  · rename_i h1; exact no (by rw [Bool.eq_iff_iff]; simp [inR]; omega)
def c_impl_inGroup : Con := ⟨0, 0, false, fun xs hs _ K => match xs with
  | [.val (.int .i64 a)] => hs = [] ∧ K (B (inR a 1 996)) [] []
  | _ => False⟩
def idxI (l : List Int) (x : Int) : Int := match l.idxOf? x with
  | some i => i
  | none => -1
theorem idxI_some {l : List Int} {x : Int} {i : Nat} (h : l[i]? = some x) (hn : ∀ j, j < i → l[j]? ≠ some x) : idxI l x = i := by
  have : l.idxOf? x = some i := by
    rw [List.idxOf?_eq_some_iff]
    obtain ⟨hi, he⟩ := List.getElem?_eq_some_iff.1 h
    refine ⟨hi, he, fun j hj e => hn j hj ?_⟩
    rw [List.getElem?_eq_getElem (by omega), e]
  simp [idxI, this]
theorem idxI_none {l : List Int} {x : Int} (hn : ∀ j, j < l.length → l[j]? ≠ some x) : idxI l x = -1 := by
  have : l.idxOf? x = none := by
    rw [List.idxOf?_eq_none_iff]
    intro hm
    obtain ⟨i, hi, he⟩ := List.getElem_of_mem hm
    exact hn i hi (by rw [List.getElem?_eq_getElem hi, he])
  simp [idxI, this]
theorem idxI_mem {l : List Int} {x : Int} : decide (0 ≤ idxI l x) = decide (x ∈ l) := by
  unfold idxI
  split
  · rename_i i hi
    have : x ∈ l := by
      obtain ⟨h1, h2, _⟩ := List.idxOf?_eq_some_iff.1 hi
      rw [← h2]; exact List.getElem_mem h1
    simp [this]
  · rename_i hi
    have := List.idxOf?_eq_none_iff.1 hi
    simp [this]
def c_slices_Index : Con := ⟨0, 0, false, fun xs hs _ K => match xs with
  | [.ints l, .val (.int .i64 x)] => hs = [] ∧ l.length < 2000000 ∧ K (I (idxI l x)) [] []
  | _ => False⟩
def c_slices_Contains : Con := ⟨0, 0, false, fun xs hs _ K => match xs with
  | [.ints l, .val (.int .i64 x)] => hs = [] ∧ l.length < 2000000 ∧ K (B (decide (x ∈ l))) [] []
  | _ => False⟩
def c_impl_committee_valid : Con := ⟨0, 0, false, fun xs hs _ K => match xs with
  | [.ints l] => hs = [] ∧ l.length < 2000000 ∧ K (B (comV l)) [] []
  | _ => False⟩
theorem k_impl_committee_valid : Keeps' Try.prog 94 c_impl_committee_valid := by
  refine keeps_of_vc mix TyT_ok cok_nil Try.func94 rfl rfl rfl ?_
  intro aargs hs Fs K h
  simp only [c_impl_committee_valid] at h
  split at h
  case h_2 => exact h.elim
  rename_i l
  obtain ⟨rfl, hl, h⟩ := h
  have no : ∀ {b : Bool}, comV l = b → K (B b) [] [] := fun e => by rw [← e]; exact h
  repeat' (first
    | ((conv => whnf); (first
      | refine brK_dec (fun _ => ?_) (fun _ => ?_)
      | refine brK_ndec (fun _ => ?_) (fun _ => ?_)
      | refine brK_not (fun _ => ?_) (fun _ => ?_)
      | refine brK_in (fun _ => ?_) (fun _ => ?_)
      | refine And.intro (by first | exact rfl | exact ⟨_, rfl, rfl⟩ | exact ⟨rfl, rfl, rfl⟩ | exact of_decide_eq_true rfl | exact trivial | assumption | omega | (show (_ ≤ _ ∧ _ ≤ _); omega) | (simp; omega) | exact ⟨by first | omega | (simp; omega), _, rfl, rfl⟩) ?_
      | refine Quo.l (And.intro (by first | exact rfl | assumption | omega | (simp; omega)) ?_)
      | refine Quo.r (And.intro (by omega) ?_)
      | refine Both.mk ?_ ?_
      | refine Exists.intro _ (And.intro rfl ?_)
      | refine fun _ => ?_))
    | exact rfl)
  · rename_i h1; exact no (by simp [comV, inR]; omega)
  · rename_i h1 h2; exact no (by simp [comV, inR]; omega)
  rename_i h1 h2
  refine loop_in (ι := Nat) (fun i => mkS 26 [(0, .ints l), (2, B false), (13, .ints l), (14, I l.length), (15, I i)] [] Fs) (fun i => i ≤ l.length ∧ ∀ x ∈ l.take i, inR x 1 9 = true) (fun i => l.length - i) 0 [] ⟨Nat.zero_le _, by simp⟩ ?_ ?_
  · repeat' (first
      | ((conv => whnf); (first
        | refine brK_dec (fun _ => ?_) (fun _ => ?_)
        | refine brK_ndec (fun _ => ?_) (fun _ => ?_)
        | refine brK_not (fun _ => ?_) (fun _ => ?_)
        | refine brK_in (fun _ => ?_) (fun _ => ?_)
        | refine And.intro (by first | exact rfl | exact ⟨_, rfl, rfl⟩ | exact ⟨rfl, rfl, rfl⟩ | exact of_decide_eq_true rfl | exact trivial | assumption | omega | (show (_ ≤ _ ∧ _ ≤ _); omega) | (simp; omega) | exact ⟨by first | omega | (simp; omega), _, rfl, rfl⟩) ?_
        | refine Quo.l (And.intro (by first | exact rfl | assumption | omega | (simp; omega)) ?_)
        | refine Quo.r (And.intro (by omega) ?_)
        | refine Both.mk ?_ ?_
        | refine Exists.intro _ (And.intro rfl ?_)
        | refine fun _ => ?_))
      | exact rfl)
  intro i ⟨hi, hall⟩
  repeat' (first
    | ((conv => whnf); (first
      | refine brK_dec (fun _ => ?_) (fun _ => ?_)
      | refine brK_ndec (fun _ => ?_) (fun _ => ?_)
      | refine brK_not (fun _ => ?_) (fun _ => ?_)
      | refine brK_in (fun _ => ?_) (fun _ => ?_)
      | refine And.intro (by first | exact rfl | exact ⟨_, rfl, rfl⟩ | exact ⟨rfl, rfl, rfl⟩ | exact of_decide_eq_true rfl | exact trivial | assumption | omega | (show (_ ≤ _ ∧ _ ≤ _); omega) | (simp; omega) | exact ⟨by first | omega | (simp; omega), _, rfl, rfl⟩) ?_
      | refine Quo.l (And.intro (by first | exact rfl | assumption | omega | (simp; omega)) ?_)
      | refine Quo.r (And.intro (by omega) ?_)
      | refine Both.mk ?_ ?_
      | refine Exists.intro _ (And.intro rfl ?_)
      | refine fun _ => ?_))
    | exact rfl)
  · rename_i hil x hx h3
    exact no (by
      simp only [comV, Bool.and_eq_false_iff, List.all_eq_false]
      exact .inl ⟨x, List.mem_of_getElem? hx, by simp [inR]; omega⟩)
  · rename_i hil x hx h3 h4
    exact no (by
      simp only [comV, Bool.and_eq_false_iff, List.all_eq_false]
      exact .inl ⟨x, List.mem_of_getElem? hx, by simp [inR]; omega⟩)
  · rename_i hil x hx h3 h4
    refine ⟨i + 1, [], ⟨by omega, take_all hall hx (by simp [inR]; omega)⟩, by omega, ?_⟩
    repeat' (first
      | ((conv => whnf); (first
        | refine brK_dec (fun _ => ?_) (fun _ => ?_)
        | refine brK_ndec (fun _ => ?_) (fun _ => ?_)
        | refine brK_not (fun _ => ?_) (fun _ => ?_)
        | refine brK_in (fun _ => ?_) (fun _ => ?_)
        | refine And.intro (by first | exact rfl | exact ⟨_, rfl, rfl⟩ | exact ⟨rfl, rfl, rfl⟩ | exact of_decide_eq_true rfl | exact trivial | assumption | omega | (show (_ ≤ _ ∧ _ ≤ _); omega) | (simp; omega) | exact ⟨by first | omega | (simp; omega), _, rfl, rfl⟩) ?_
        | refine Quo.l (And.intro (by first | exact rfl | assumption | omega | (simp; omega)) ?_)
        | refine Quo.r (And.intro (by omega) ?_)
        | refine Both.mk ?_ ?_
        | refine Exists.intro _ (And.intro rfl ?_)
        | refine fun _ => ?_))
      | exact rfl)
  · rename_i hil
    exact no (by
      simp only [comV, List.all_eq_true.2 (all_take hall hil), Bool.true_and]
      simp [inR]; omega)
def c_impl_CommitteeValid : Con := ⟨0, 0, false, fun xs hs _ K => match xs with
  | [.ints l] => hs = [] ∧ l.length < 2000000 ∧ K (B (comV l)) [] []
  | _ => False⟩
theorem k_impl_CommitteeValid : Keeps' Try.prog 75 c_impl_CommitteeValid := by
  refine keeps_of_vc mix TyT_ok (cok_cons k_impl_committee_valid Try.func94 rfl rfl cok_nil) Try.func75 rfl rfl rfl ?_
  intro aargs hs Fs K h
  simp only [c_impl_CommitteeValid] at h
  split at h
  case h_2 => exact h.elim
  obtain ⟨rfl, hl, h⟩ := h
  repeat' (first
    | ((conv => whnf); (first
      | refine brK_dec (fun _ => ?_) (fun _ => ?_)
      | refine brK_ndec (fun _ => ?_) (fun _ => ?_)
      | refine brK_not (fun _ => ?_) (fun _ => ?_)
      | refine brK_in (fun _ => ?_) (fun _ => ?_)
      | refine And.intro (by first | exact rfl | exact ⟨_, rfl, rfl⟩ | exact ⟨rfl, rfl, rfl⟩ | exact of_decide_eq_true rfl | exact trivial | assumption | omega | (show (_ ≤ _ ∧ _ ≤ _); omega) | (simp; omega) | exact ⟨by first | omega | (simp; omega), _, rfl, rfl⟩) ?_
      | refine Quo.l (And.intro (by first | exact rfl | assumption | omega | (simp; omega)) ?_)
      | refine Quo.r (And.intro (by omega) ?_)
      | refine Both.mk ?_ ?_
      | refine Exists.intro _ (And.intro rfl ?_)
      | refine fun _ => ?_))
    | exact rfl)
  exact h
theorem keysV_no {c k : List Int} {x : Int} (h : x ∈ k) (h1 : inR x 1 996 = false) : keysV c k = false := by
  simp only [keysV, Bool.and_eq_false_iff, List.all_eq_false]
  exact .inl ⟨x, h, by simp [h1]⟩
def c_impl_keysFit : Con := ⟨0, 0, false, fun xs hs _ K => match xs with
  | [.ints c, .ints k] => hs = [] ∧ c.length < 2000000 ∧ k.length < 2000000 ∧ K (B (keysV c k)) [] []
  | _ => False⟩
def c_impl_EpochValid : Con := ⟨0, 0, false, fun xs hs _ K => match xs with
  | [.agg [.val (.int .i64 n), .ints c, .ints k, .val (.int .i64 r)]] => hs = [] ∧ c.length < 2000000 ∧ k.length < 2000000 ∧ K (B (EpV n c k r)) [] []
  | _ => False⟩
end Go.Proofs.Ytalbgcpfekmfoaa
