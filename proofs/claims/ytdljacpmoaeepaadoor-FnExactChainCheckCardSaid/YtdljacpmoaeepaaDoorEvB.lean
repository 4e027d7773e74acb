/-
The validity of an epoch: the program's functions.
No conditions.
-/
import Derived.Test.YtdljacpmoaeepaaDoorEvA
namespace Go.Proofs.YtdljacpmoaeepaaDoor
open Go Go.Vc
set_option maxHeartbeats 1000000
set_option maxRecDepth 10000
def c_impl_isDigest : Con := ⟨0, 0, false, fun xs hs _ K => match xs with
  | [.val (.int .i64 a)] => hs = [] ∧ K (B (inR a 0 990)) [] []
  | _ => False⟩
theorem k_impl_isDigest : Keeps' Tryd.prog 36 c_impl_isDigest := by
  refine keeps_of_vc mix TyT_ok cok_nil Tryd.func36 rfl rfl rfl ?_
  intro aargs hs Fs K h
  simp only [c_impl_isDigest] at h
  split at h
  case h_2 => exact h.elim
  rename_i a
  obtain ⟨rfl, h⟩ := h
  have no : ∀ {b : Bool}, inR a 0 990 = b → K (B b) [] [] := fun e => by rw [← e]; exact h
  repeat' (first|((conv=>whnf); (first|refine brK_dec (fun _=>?_) (fun _=>?_)|refine brK_ndec (fun _=>?_) (fun _=>?_)|refine brK_not (fun _=>?_) (fun _=>?_)|refine brK_in (fun _=>?_) (fun _=>?_)|refine And.intro (by first|exact rfl|exact ⟨_,rfl,rfl⟩|exact ⟨rfl,rfl,rfl⟩|exact of_decide_eq_true rfl|exact trivial|assumption|omega|(show (_ ≤ _ ∧ _ ≤ _); omega)|(simp; omega)|exact ⟨by first|omega|(simp; omega),_,rfl,rfl⟩) ?_|refine Quo.l (And.intro (by first|exact rfl|assumption|omega|(simp; omega)) ?_)|refine Quo.r (And.intro (by omega) ?_)|refine Both.mk ?_ ?_|refine Exists.intro _ (And.intro rfl ?_)|refine fun _=>?_))|exact rfl)
  · rename_i h1; exact no (by rw [Bool.eq_iff_iff]; simp [inR]; omega)
  · rename_i h1; exact no (by rw [Bool.eq_iff_iff]; simp [inR]; omega)
def c_impl_inGroup : Con := ⟨0, 0, false, fun xs hs _ K => match xs with
  | [.val (.int .i64 a)] => hs = [] ∧ K (B (inR a 1 996)) [] []
  | _ => False⟩
theorem k_impl_inGroup : Keeps' Tryd.prog 52 c_impl_inGroup := by
  refine keeps_of_vc mix TyT_ok cok_nil Tryd.func52 rfl rfl rfl ?_
  intro aargs hs Fs K h
  simp only [c_impl_inGroup] at h
  split at h
  case h_2 => exact h.elim
  rename_i a
  obtain ⟨rfl, h⟩ := h
  have no : ∀ {b : Bool}, inR a 1 996 = b → K (B b) [] [] := fun e => by rw [← e]; exact h
  repeat' (first|((conv=>whnf); (first|refine brK_dec (fun _=>?_) (fun _=>?_)|refine brK_ndec (fun _=>?_) (fun _=>?_)|refine brK_not (fun _=>?_) (fun _=>?_)|refine brK_in (fun _=>?_) (fun _=>?_)|refine And.intro (by first|exact rfl|exact ⟨_,rfl,rfl⟩|exact ⟨rfl,rfl,rfl⟩|exact of_decide_eq_true rfl|exact trivial|assumption|omega|(show (_ ≤ _ ∧ _ ≤ _); omega)|(simp; omega)|exact ⟨by first|omega|(simp; omega),_,rfl,rfl⟩) ?_|refine Quo.l (And.intro (by first|exact rfl|assumption|omega|(simp; omega)) ?_)|refine Quo.r (And.intro (by omega) ?_)|refine Both.mk ?_ ?_|refine Exists.intro _ (And.intro rfl ?_)|refine fun _=>?_))|exact rfl)
  · rename_i h1; exact no (by rw [Bool.eq_iff_iff]; simp [inR]; omega)
  · rename_i h1; exact no (by rw [Bool.eq_iff_iff]; simp [inR]; omega)
def idxI (l : List Int) (x : Int) : Int := match l.idxOf? x with
  | some i => i
  | none => -1
theorem idxI_some {l : List Int} {x : Int} {i : Nat} (h : l[i]? = some x) (hn : ∀ j, j < i → l[j]? ≠ some x) : idxI l x = i := by
  have : l.idxOf? x = some i := by
    rw [List.idxOf?_eq_some_iff]
    obtain ⟨hi, he⟩ := List.getElem?_eq_some_iff.1 h
    refine ⟨hi, he, fun j hj e => hn j hj ?_⟩
    rw [List.getElem?_eq_getElem (by omega), e]
  simp [idxI, this]
theorem idxI_none {l : List Int} {x : Int} (hn : ∀ j, j < l.length → l[j]? ≠ some x) : idxI l x = -1 := by
  have : l.idxOf? x = none := by
    rw [List.idxOf?_eq_none_iff]
    intro hm
    obtain ⟨i, hi, he⟩ := List.getElem_of_mem hm
    exact hn i hi (by rw [List.getElem?_eq_getElem hi, he])
  simp [idxI, this]
theorem idxI_mem {l : List Int} {x : Int} : decide (0 ≤ idxI l x) = decide (x ∈ l) := by
  unfold idxI
  split
  · rename_i i hi
    have : x ∈ l := by
      obtain ⟨h1, h2, _⟩ := List.idxOf?_eq_some_iff.1 hi
      rw [← h2]; exact List.getElem_mem h1
    simp [this]
  · rename_i hi
    have := List.idxOf?_eq_none_iff.1 hi
    simp [this]
def c_slices_Index : Con := ⟨0, 0, false, fun xs hs _ K => match xs with
  | [.ints l, .val (.int .i64 x)] => hs = [] ∧ l.length < 2000000 ∧ K (I (idxI l x)) [] []
  | _ => False⟩
theorem k_slices_Index : Keeps' Tryd.prog 53 c_slices_Index := by
  refine keeps_of_vc mix TyT_ok cok_nil Tryd.func53 rfl rfl rfl ?_
  intro aargs hs Fs K h
  simp only [c_slices_Index] at h
  split at h
  case h_2 => exact h.elim
  rename_i l x
  obtain ⟨rfl, hl, h⟩ := h
  have no : ∀ {b : Int}, idxI l x = b → K (I b) [] [] := fun e => by rw [← e]; exact h
  repeat' (first|((conv=>whnf); (first|refine brK_dec (fun _=>?_) (fun _=>?_)|refine brK_ndec (fun _=>?_) (fun _=>?_)|refine brK_not (fun _=>?_) (fun _=>?_)|refine brK_in (fun _=>?_) (fun _=>?_)|refine And.intro (by first|exact rfl|exact ⟨_,rfl,rfl⟩|exact ⟨rfl,rfl,rfl⟩|exact of_decide_eq_true rfl|exact trivial|assumption|omega|(show (_ ≤ _ ∧ _ ≤ _); omega)|(simp; omega)|exact ⟨by first|omega|(simp; omega),_,rfl,rfl⟩) ?_|refine Quo.l (And.intro (by first|exact rfl|assumption|omega|(simp; omega)) ?_)|refine Quo.r (And.intro (by omega) ?_)|refine Both.mk ?_ ?_|refine Exists.intro _ (And.intro rfl ?_)|refine fun _=>?_))|exact rfl)
  refine loop_in (ι := Nat) (fun i => mkS 19 [(0, .ints l), (1, I x), (7, I l.length), (8, I i)] [] Fs) (fun i => i ≤ l.length ∧ ∀ j, j < i → l[j]? ≠ some x) (fun i => l.length - i) 0 [] ⟨Nat.zero_le _, by omega⟩ ?_ ?_
  · repeat' (first|((conv=>whnf); (first|refine brK_dec (fun _=>?_) (fun _=>?_)|refine brK_ndec (fun _=>?_) (fun _=>?_)|refine brK_not (fun _=>?_) (fun _=>?_)|refine brK_in (fun _=>?_) (fun _=>?_)|refine And.intro (by first|exact rfl|exact ⟨_,rfl,rfl⟩|exact ⟨rfl,rfl,rfl⟩|exact of_decide_eq_true rfl|exact trivial|assumption|omega|(show (_ ≤ _ ∧ _ ≤ _); omega)|(simp; omega)|exact ⟨by first|omega|(simp; omega),_,rfl,rfl⟩) ?_|refine Quo.l (And.intro (by first|exact rfl|assumption|omega|(simp; omega)) ?_)|refine Quo.r (And.intro (by omega) ?_)|refine Both.mk ?_ ?_|refine Exists.intro _ (And.intro rfl ?_)|refine fun _=>?_))|exact rfl)
  intro i ⟨hi, hall⟩
  repeat' (first|((conv=>whnf); (first|refine brK_dec (fun _=>?_) (fun _=>?_)|refine brK_ndec (fun _=>?_) (fun _=>?_)|refine brK_not (fun _=>?_) (fun _=>?_)|refine brK_in (fun _=>?_) (fun _=>?_)|refine And.intro (by first|exact rfl|exact ⟨_,rfl,rfl⟩|exact ⟨rfl,rfl,rfl⟩|exact of_decide_eq_true rfl|exact trivial|assumption|omega|(show (_ ≤ _ ∧ _ ≤ _); omega)|(simp; omega)|exact ⟨by first|omega|(simp; omega),_,rfl,rfl⟩) ?_|refine Quo.l (And.intro (by first|exact rfl|assumption|omega|(simp; omega)) ?_)|refine Quo.r (And.intro (by omega) ?_)|refine Both.mk ?_ ?_|refine Exists.intro _ (And.intro rfl ?_)|refine fun _=>?_))|exact rfl)
  · rename_i hil y hy e
    subst e
    exact no (idxI_some hy hall)
  · rename_i hil y hy e
    refine ⟨i + 1, [], ⟨by omega, fun j hj he => ?_⟩, by omega, ?_⟩
    · by_cases hji : j = i
      · subst hji
        have hy' : l[j]? = some y := hy
        rw [hy'] at he
        exact e (Option.some.inj he).symm
      · exact hall j (by omega) he
    repeat' (first|((conv=>whnf); (first|refine brK_dec (fun _=>?_) (fun _=>?_)|refine brK_ndec (fun _=>?_) (fun _=>?_)|refine brK_not (fun _=>?_) (fun _=>?_)|refine brK_in (fun _=>?_) (fun _=>?_)|refine And.intro (by first|exact rfl|exact ⟨_,rfl,rfl⟩|exact ⟨rfl,rfl,rfl⟩|exact of_decide_eq_true rfl|exact trivial|assumption|omega|(show (_ ≤ _ ∧ _ ≤ _); omega)|(simp; omega)|exact ⟨by first|omega|(simp; omega),_,rfl,rfl⟩) ?_|refine Quo.l (And.intro (by first|exact rfl|assumption|omega|(simp; omega)) ?_)|refine Quo.r (And.intro (by omega) ?_)|refine Both.mk ?_ ?_|refine Exists.intro _ (And.intro rfl ?_)|refine fun _=>?_))|exact rfl)
  · rename_i hil
    exact no (idxI_none fun j hj => hall j (by omega))
def c_slices_Contains : Con := ⟨0, 0, false, fun xs hs _ K => match xs with
  | [.ints l, .val (.int .i64 x)] => hs = [] ∧ l.length < 2000000 ∧ K (B (decide (x ∈ l))) [] []
  | _ => False⟩
theorem k_slices_Contains : Keeps' Tryd.prog 38 c_slices_Contains := by
  refine keeps_of_vc mix TyT_ok (cok_cons k_slices_Index Tryd.func53 rfl rfl cok_nil) Tryd.func38 rfl rfl rfl ?_
  intro aargs hs Fs K h
  simp only [c_slices_Contains] at h
  split at h
  case h_2 => exact h.elim
  rename_i l x
  obtain ⟨rfl, hl, h⟩ := h
  repeat' (first|((conv=>whnf); (first|refine brK_dec (fun _=>?_) (fun _=>?_)|refine brK_ndec (fun _=>?_) (fun _=>?_)|refine brK_not (fun _=>?_) (fun _=>?_)|refine brK_in (fun _=>?_) (fun _=>?_)|refine And.intro (by first|exact rfl|exact ⟨_,rfl,rfl⟩|exact ⟨rfl,rfl,rfl⟩|exact of_decide_eq_true rfl|exact trivial|assumption|omega|(show (_ ≤ _ ∧ _ ≤ _); omega)|(simp; omega)|exact ⟨by first|omega|(simp; omega),_,rfl,rfl⟩) ?_|refine Quo.l (And.intro (by first|exact rfl|assumption|omega|(simp; omega)) ?_)|refine Quo.r (And.intro (by omega) ?_)|refine Both.mk ?_ ?_|refine Exists.intro _ (And.intro rfl ?_)|refine fun _=>?_))|exact rfl)
  show K (B _) [] []
  rw [idxI_mem]; exact h
def c_impl_committee_valid : Con := ⟨0, 0, false, fun xs hs _ K => match xs with
  | [.ints l] => hs = [] ∧ l.length < 2000000 ∧ K (B (comV l)) [] []
  | _ => False⟩
theorem k_impl_committee_valid : Keeps' Tryd.prog 60 c_impl_committee_valid := by
  refine keeps_of_vc mix TyT_ok cok_nil Tryd.func60 rfl rfl rfl ?_
  intro aargs hs Fs K h
  simp only [c_impl_committee_valid] at h
  split at h
  case h_2 => exact h.elim
  rename_i l
  obtain ⟨rfl, hl, h⟩ := h
  have no : ∀ {b : Bool}, comV l = b → K (B b) [] [] := fun e => by rw [← e]; exact h
  repeat' (first|((conv=>whnf); (first|refine brK_dec (fun _=>?_) (fun _=>?_)|refine brK_ndec (fun _=>?_) (fun _=>?_)|refine brK_not (fun _=>?_) (fun _=>?_)|refine brK_in (fun _=>?_) (fun _=>?_)|refine And.intro (by first|exact rfl|exact ⟨_,rfl,rfl⟩|exact ⟨rfl,rfl,rfl⟩|exact of_decide_eq_true rfl|exact trivial|assumption|omega|(show (_ ≤ _ ∧ _ ≤ _); omega)|(simp; omega)|exact ⟨by first|omega|(simp; omega),_,rfl,rfl⟩) ?_|refine Quo.l (And.intro (by first|exact rfl|assumption|omega|(simp; omega)) ?_)|refine Quo.r (And.intro (by omega) ?_)|refine Both.mk ?_ ?_|refine Exists.intro _ (And.intro rfl ?_)|refine fun _=>?_))|exact rfl)
  · rename_i h1; exact no (by simp [comV, inR]; omega)
  · rename_i h1 h2; exact no (by simp [comV, inR]; omega)
  rename_i h1 h2
  refine loop_in (ι := Nat) (fun i => mkS 26 [(0, .ints l), (2, B false), (13, .ints l), (14, I l.length), (15, I i)] [] Fs) (fun i => i ≤ l.length ∧ ∀ x ∈ l.take i, inR x 1 9 = true) (fun i => l.length - i) 0 [] ⟨Nat.zero_le _, by simp⟩ ?_ ?_
  · repeat' (first|((conv=>whnf); (first|refine brK_dec (fun _=>?_) (fun _=>?_)|refine brK_ndec (fun _=>?_) (fun _=>?_)|refine brK_not (fun _=>?_) (fun _=>?_)|refine brK_in (fun _=>?_) (fun _=>?_)|refine And.intro (by first|exact rfl|exact ⟨_,rfl,rfl⟩|exact ⟨rfl,rfl,rfl⟩|exact of_decide_eq_true rfl|exact trivial|assumption|omega|(show (_ ≤ _ ∧ _ ≤ _); omega)|(simp; omega)|exact ⟨by first|omega|(simp; omega),_,rfl,rfl⟩) ?_|refine Quo.l (And.intro (by first|exact rfl|assumption|omega|(simp; omega)) ?_)|refine Quo.r (And.intro (by omega) ?_)|refine Both.mk ?_ ?_|refine Exists.intro _ (And.intro rfl ?_)|refine fun _=>?_))|exact rfl)
  intro i ⟨hi, hall⟩
  repeat' (first|((conv=>whnf); (first|refine brK_dec (fun _=>?_) (fun _=>?_)|refine brK_ndec (fun _=>?_) (fun _=>?_)|refine brK_not (fun _=>?_) (fun _=>?_)|refine brK_in (fun _=>?_) (fun _=>?_)|refine And.intro (by first|exact rfl|exact ⟨_,rfl,rfl⟩|exact ⟨rfl,rfl,rfl⟩|exact of_decide_eq_true rfl|exact trivial|assumption|omega|(show (_ ≤ _ ∧ _ ≤ _); omega)|(simp; omega)|exact ⟨by first|omega|(simp; omega),_,rfl,rfl⟩) ?_|refine Quo.l (And.intro (by first|exact rfl|assumption|omega|(simp; omega)) ?_)|refine Quo.r (And.intro (by omega) ?_)|refine Both.mk ?_ ?_|refine Exists.intro _ (And.intro rfl ?_)|refine fun _=>?_))|exact rfl)
  · rename_i hil x hx h3
    exact no (by
      simp only [comV, Bool.and_eq_false_iff, List.all_eq_false]
      exact .inl ⟨x, List.mem_of_getElem? hx, by simp [inR]; omega⟩)
  · rename_i hil x hx h3 h4
    exact no (by
      simp only [comV, Bool.and_eq_false_iff, List.all_eq_false]
      exact .inl ⟨x, List.mem_of_getElem? hx, by simp [inR]; omega⟩)
  · rename_i hil x hx h3 h4
    refine ⟨i + 1, [], ⟨by omega, take_all hall hx (by simp [inR]; omega)⟩, by omega, ?_⟩
    repeat' (first|((conv=>whnf); (first|refine brK_dec (fun _=>?_) (fun _=>?_)|refine brK_ndec (fun _=>?_) (fun _=>?_)|refine brK_not (fun _=>?_) (fun _=>?_)|refine brK_in (fun _=>?_) (fun _=>?_)|refine And.intro (by first|exact rfl|exact ⟨_,rfl,rfl⟩|exact ⟨rfl,rfl,rfl⟩|exact of_decide_eq_true rfl|exact trivial|assumption|omega|(show (_ ≤ _ ∧ _ ≤ _); omega)|(simp; omega)|exact ⟨by first|omega|(simp; omega),_,rfl,rfl⟩) ?_|refine Quo.l (And.intro (by first|exact rfl|assumption|omega|(simp; omega)) ?_)|refine Quo.r (And.intro (by omega) ?_)|refine Both.mk ?_ ?_|refine Exists.intro _ (And.intro rfl ?_)|refine fun _=>?_))|exact rfl)
  · rename_i hil
    exact no (by
      simp only [comV, List.all_eq_true.2 (all_take hall hil), Bool.true_and]
      simp [inR]; omega)
def c_impl_CommitteeValid : Con := ⟨0, 0, false, fun xs hs _ K => match xs with
  | [.ints l] => hs = [] ∧ l.length < 2000000 ∧ K (B (comV l)) [] []
  | _ => False⟩
theorem k_impl_CommitteeValid : Keeps' Tryd.prog 51 c_impl_CommitteeValid := by
  refine keeps_of_vc mix TyT_ok (cok_cons k_impl_committee_valid Tryd.func60 rfl rfl cok_nil) Tryd.func51 rfl rfl rfl ?_
  intro aargs hs Fs K h
  simp only [c_impl_CommitteeValid] at h
  split at h
  case h_2 => exact h.elim
  obtain ⟨rfl, hl, h⟩ := h
  repeat' (first|((conv=>whnf); (first|refine brK_dec (fun _=>?_) (fun _=>?_)|refine brK_ndec (fun _=>?_) (fun _=>?_)|refine brK_not (fun _=>?_) (fun _=>?_)|refine brK_in (fun _=>?_) (fun _=>?_)|refine And.intro (by first|exact rfl|exact ⟨_,rfl,rfl⟩|exact ⟨rfl,rfl,rfl⟩|exact of_decide_eq_true rfl|exact trivial|assumption|omega|(show (_ ≤ _ ∧ _ ≤ _); omega)|(simp; omega)|exact ⟨by first|omega|(simp; omega),_,rfl,rfl⟩) ?_|refine Quo.l (And.intro (by first|exact rfl|assumption|omega|(simp; omega)) ?_)|refine Quo.r (And.intro (by omega) ?_)|refine Both.mk ?_ ?_|refine Exists.intro _ (And.intro rfl ?_)|refine fun _=>?_))|exact rfl)
  exact h
theorem keysV_no {c k : List Int} {x : Int} (h : x ∈ k) (h1 : inR x 1 996 = false) : keysV c k = false := by
  simp only [keysV, Bool.and_eq_false_iff, List.all_eq_false]
  exact .inl ⟨x, h, by simp [h1]⟩
def c_impl_keysFit : Con := ⟨0, 0, false, fun xs hs _ K => match xs with
  | [.ints c, .ints k] => hs = [] ∧ c.length < 2000000 ∧ k.length < 2000000 ∧ K (B (keysV c k)) [] []
  | _ => False⟩
theorem k_impl_keysFit : Keeps' Tryd.prog 37 c_impl_keysFit := by
  refine keeps_of_vc mix TyT_ok (cok_cons k_impl_CommitteeValid Tryd.func51 rfl rfl (cok_cons k_impl_inGroup Tryd.func52 rfl rfl cok_nil)) Tryd.func37 rfl rfl rfl ?_
  intro aargs hs Fs K h
  simp only [c_impl_keysFit] at h
  split at h
  case h_2 => exact h.elim
  rename_i c k
  obtain ⟨rfl, hc, hk, h⟩ := h
  have no : ∀ {b : Bool}, keysV c k = b → K (B b) [] [] := fun e => by rw [← e]; exact h
  repeat' (first|((conv=>whnf); (first|refine brK_dec (fun _=>?_) (fun _=>?_)|refine brK_ndec (fun _=>?_) (fun _=>?_)|refine brK_not (fun _=>?_) (fun _=>?_)|refine brK_in (fun _=>?_) (fun _=>?_)|refine And.intro (by first|exact rfl|exact ⟨_,rfl,rfl⟩|exact ⟨rfl,rfl,rfl⟩|exact of_decide_eq_true rfl|exact trivial|assumption|omega|(show (_ ≤ _ ∧ _ ≤ _); omega)|(simp; omega)|exact ⟨by first|omega|(simp; omega),_,rfl,rfl⟩) ?_|refine Quo.l (And.intro (by first|exact rfl|assumption|omega|(simp; omega)) ?_)|refine Quo.r (And.intro (by omega) ?_)|refine Both.mk ?_ ?_|refine Exists.intro _ (And.intro rfl ?_)|refine fun _=>?_))|exact rfl)
  · rename_i h1; exact no (by simp [keysV, h1])
  · rename_i h1 h2; exact no (by
      have : ¬ k.length = c.length := by omega
      simp [keysV, this])
  rename_i h1 h2
  have hlen : k.length = c.length := by omega
  refine loop_in (ι := Nat) (fun i => mkS 27 [(0, .ints c), (1, .ints k), (4, B false), (17, .ints k), (18, I k.length), (19, I i)] [] Fs) (fun i => i ≤ k.length ∧ ∀ x ∈ k.take i, inR x 1 996 = true) (fun i => k.length - i) 0 [] ⟨Nat.zero_le _, by simp⟩ ?_ ?_
  · repeat' (first|((conv=>whnf); (first|refine brK_dec (fun _=>?_) (fun _=>?_)|refine brK_ndec (fun _=>?_) (fun _=>?_)|refine brK_not (fun _=>?_) (fun _=>?_)|refine brK_in (fun _=>?_) (fun _=>?_)|refine And.intro (by first|exact rfl|exact ⟨_,rfl,rfl⟩|exact ⟨rfl,rfl,rfl⟩|exact of_decide_eq_true rfl|exact trivial|assumption|omega|(show (_ ≤ _ ∧ _ ≤ _); omega)|(simp; omega)|exact ⟨by first|omega|(simp; omega),_,rfl,rfl⟩) ?_|refine Quo.l (And.intro (by first|exact rfl|assumption|omega|(simp; omega)) ?_)|refine Quo.r (And.intro (by omega) ?_)|refine Both.mk ?_ ?_|refine Exists.intro _ (And.intro rfl ?_)|refine fun _=>?_))|exact rfl)
  intro i ⟨hi, hall⟩
  repeat' (first|((conv=>whnf); (first|refine brK_dec (fun _=>?_) (fun _=>?_)|refine brK_ndec (fun _=>?_) (fun _=>?_)|refine brK_not (fun _=>?_) (fun _=>?_)|refine brK_in (fun _=>?_) (fun _=>?_)|refine And.intro (by first|exact rfl|exact ⟨_,rfl,rfl⟩|exact ⟨rfl,rfl,rfl⟩|exact of_decide_eq_true rfl|exact trivial|assumption|omega|(show (_ ≤ _ ∧ _ ≤ _); omega)|(simp; omega)|exact ⟨by first|omega|(simp; omega),_,rfl,rfl⟩) ?_|refine Quo.l (And.intro (by first|exact rfl|assumption|omega|(simp; omega)) ?_)|refine Quo.r (And.intro (by omega) ?_)|refine Both.mk ?_ ?_|refine Exists.intro _ (And.intro rfl ?_)|refine fun _=>?_))|exact rfl)
  · rename_i hil x hx h3
    exact no (keysV_no (List.mem_of_getElem? hx) h3)
  · rename_i hil x hx h3
    refine ⟨i + 1, [], ⟨by omega, take_all hall hx h3⟩, by omega, ?_⟩
    repeat' (first|((conv=>whnf); (first|refine brK_dec (fun _=>?_) (fun _=>?_)|refine brK_ndec (fun _=>?_) (fun _=>?_)|refine brK_not (fun _=>?_) (fun _=>?_)|refine brK_in (fun _=>?_) (fun _=>?_)|refine And.intro (by first|exact rfl|exact ⟨_,rfl,rfl⟩|exact ⟨rfl,rfl,rfl⟩|exact of_decide_eq_true rfl|exact trivial|assumption|omega|(show (_ ≤ _ ∧ _ ≤ _); omega)|(simp; omega)|exact ⟨by first|omega|(simp; omega),_,rfl,rfl⟩) ?_|refine Quo.l (And.intro (by first|exact rfl|assumption|omega|(simp; omega)) ?_)|refine Quo.r (And.intro (by omega) ?_)|refine Both.mk ?_ ?_|refine Exists.intro _ (And.intro rfl ?_)|refine fun _=>?_))|exact rfl)
  · rename_i hil
    exact no (by simp [keysV, List.all_eq_true.2 (all_take hall hil), h1, hlen])
def c_impl_EpochValid : Con := ⟨0, 0, false, fun xs hs _ K => match xs with
  | [.agg [.val (.int .i64 n), .ints c, .ints k, .val (.int .i64 r)]] => hs = [] ∧ c.length < 2000000 ∧ k.length < 2000000 ∧ K (B (EpV n c k r)) [] []
  | _ => False⟩
theorem k_impl_EpochValid : Keeps' Tryd.prog 22 c_impl_EpochValid := by
  refine keeps_of_vc mix TyT_ok (cok_cons k_impl_isDigest Tryd.func36 rfl rfl (cok_cons k_impl_keysFit Tryd.func37 rfl rfl (cok_cons k_slices_Contains Tryd.func38 rfl rfl cok_nil))) Tryd.func22 rfl rfl rfl ?_
  intro aargs hs Fs K h
  simp only [c_impl_EpochValid] at h
  split at h
  case h_2 => exact h.elim
  rename_i n c k r
  obtain ⟨rfl, hc, hk, h⟩ := h
  have no : ∀ {b : Bool}, EpV n c k r = b → K (B b) [] [] := fun e => by rw [← e]; exact h
  repeat' (first|((conv=>whnf); (first|refine brK_dec (fun _=>?_) (fun _=>?_)|refine brK_ndec (fun _=>?_) (fun _=>?_)|refine brK_not (fun _=>?_) (fun _=>?_)|refine brK_in (fun _=>?_) (fun _=>?_)|refine And.intro (by first|exact rfl|exact ⟨_,rfl,rfl⟩|exact ⟨rfl,rfl,rfl⟩|exact of_decide_eq_true rfl|exact trivial|assumption|omega|(show (_ ≤ _ ∧ _ ≤ _); omega)|(simp; omega)|exact ⟨by first|omega|(simp; omega),_,rfl,rfl⟩) ?_|refine Quo.l (And.intro (by first|exact rfl|assumption|omega|(simp; omega)) ?_)|refine Quo.r (And.intro (by omega) ?_)|refine Both.mk ?_ ?_|refine Exists.intro _ (And.intro rfl ?_)|refine fun _=>?_))|exact rfl)
  · rename_i h1; exact no (by have : inR n 0 99 = false := by (simp [inR]; omega)
                              simp [EpV, this])
  · rename_i h0 h1; exact no (by have : inR n 0 99 = false := by (simp [inR]; omega)
                                 simp [EpV, this])
  · rename_i h0 h1 h2; exact no (by simp [EpV, h2])
  · rename_i h0 h1 h2 h3; exact no (by simp [EpV, h3])
  rename_i h0 h1 h2 h3
  have hn : inR n 0 99 = true := by (simp [inR]; omega)
  refine loop_in (ι := Nat) (fun i => mkS 42 [(1, .ptr 0 0), (2, B false), (28, .ints k), (29, I k.length), (30, I i)] [.cells [I n, .ints c, .ints k, I r]] Fs) (fun i => i ≤ k.length ∧ ∀ a b x, a < i → b < a → k[a]? = some x → k[b]? ≠ some x) (fun i => k.length - i) 0 [0] ⟨Nat.zero_le _, by omega⟩ ?_ ?_
  · repeat' (first|((conv=>whnf); (first|refine brK_dec (fun _=>?_) (fun _=>?_)|refine brK_ndec (fun _=>?_) (fun _=>?_)|refine brK_not (fun _=>?_) (fun _=>?_)|refine brK_in (fun _=>?_) (fun _=>?_)|refine And.intro (by first|exact rfl|exact ⟨_,rfl,rfl⟩|exact ⟨rfl,rfl,rfl⟩|exact of_decide_eq_true rfl|exact trivial|assumption|omega|(show (_ ≤ _ ∧ _ ≤ _); omega)|(simp; omega)|exact ⟨by first|omega|(simp; omega),_,rfl,rfl⟩) ?_|refine Quo.l (And.intro (by first|exact rfl|assumption|omega|(simp; omega)) ?_)|refine Quo.r (And.intro (by omega) ?_)|refine Both.mk ?_ ?_|refine Exists.intro _ (And.intro rfl ?_)|refine fun _=>?_))|exact rfl)
  intro i ⟨hi, hall⟩
  have hto : ∀ x, (x ∈ List.take ((i : Int).toNat - 0) (List.drop 0 k)) ↔ ∃ j, j < i ∧ k[j]? = some x := by
    intro x
    rw [List.drop_zero, Nat.sub_zero, Int.toNat_natCast]
    constructor
    · intro hx
      obtain ⟨j, hj, he⟩ := List.getElem_of_mem hx
      rw [List.length_take] at hj
      rw [List.getElem_take] at he
      exact ⟨j, by omega, by rw [List.getElem?_eq_getElem (by omega), he]⟩
    · rintro ⟨j, hj, he⟩
      exact List.mem_of_getElem? (i := j) (by rw [List.getElem?_take, if_pos hj]; exact he)
  repeat' (first|((conv=>whnf); (first|refine brK_dec (fun _=>?_) (fun _=>?_)|refine brK_ndec (fun _=>?_) (fun _=>?_)|refine brK_not (fun _=>?_) (fun _=>?_)|refine brK_in (fun _=>?_) (fun _=>?_)|refine And.intro (by first|exact rfl|exact ⟨_,rfl,rfl⟩|exact ⟨rfl,rfl,rfl⟩|exact of_decide_eq_true rfl|exact trivial|assumption|omega|(show (_ ≤ _ ∧ _ ≤ _); omega)|(simp; omega)|exact ⟨by first|omega|(simp; omega),_,rfl,rfl⟩) ?_|refine Quo.l (And.intro (by first|exact rfl|assumption|omega|(simp; omega)) ?_)|refine Quo.r (And.intro (by omega) ?_)|refine Both.mk ?_ ?_|refine Exists.intro _ (And.intro rfl ?_)|refine fun _=>?_))|exact rfl)
  · rename_i hil x hx h4
    obtain ⟨j, hj, he⟩ := (hto x).1 h4
    have := nodup_no hj hx he
    exact no (by simp [EpV, this])
  · rename_i hil x hx h4
    refine ⟨i + 1, [0], ⟨by omega, fun a b y ha hb hy => ?_⟩, by omega, ?_⟩
    · by_cases hai : a = i
      · subst hai
        have hx' : k[a]? = some x := hx
        rw [hx'] at hy
        cases hy
        exact fun he => h4 ((hto _).2 ⟨b, hb, he⟩)
      · exact hall a b y (by omega) hb hy
    repeat' (first|((conv=>whnf); (first|refine brK_dec (fun _=>?_) (fun _=>?_)|refine brK_ndec (fun _=>?_) (fun _=>?_)|refine brK_not (fun _=>?_) (fun _=>?_)|refine brK_in (fun _=>?_) (fun _=>?_)|refine And.intro (by first|exact rfl|exact ⟨_,rfl,rfl⟩|exact ⟨rfl,rfl,rfl⟩|exact of_decide_eq_true rfl|exact trivial|assumption|omega|(show (_ ≤ _ ∧ _ ≤ _); omega)|(simp; omega)|exact ⟨by first|omega|(simp; omega),_,rfl,rfl⟩) ?_|refine Quo.l (And.intro (by first|exact rfl|assumption|omega|(simp; omega)) ?_)|refine Quo.r (And.intro (by omega) ?_)|refine Both.mk ?_ ?_|refine Exists.intro _ (And.intro rfl ?_)|refine fun _=>?_))|exact rfl)
  · rename_i hil
    have := nodup_yes hall hil
    exact no (by simp [EpV, h2, h3, hn, this])
end Go.Proofs.YtdljacpmoaeepaaDoor
