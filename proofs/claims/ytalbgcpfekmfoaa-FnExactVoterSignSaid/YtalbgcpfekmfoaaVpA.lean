/-
Votes and voters: valid, and the reference's vote.
No conditions.
-/
import Derived.Test.YtalbgcpfekmfoaaVpP
import Derived.Test.YtalbgcpfekmfoaaEvB
namespace Go.Proofs.Ytalbgcpfekmfoaa
open Go Go.Vc
set_option maxHeartbeats 4000000
set_option maxRecDepth 10000
theorem trow_in {l : List VtD} {n : Nat} {P : List AV → Prop} (h : ∀ v, l[n]? = some v → P v.row) : ∀ e, (l.map VtD.row)[n]? = some e → P e := by
  intro e he
  rw [List.getElem?_map] at he
  obtain ⟨v, hv, rfl⟩ := Option.map_eq_some_iff.1 he
  exact h v hv
theorem trow_use {l : List VtD} {n : Nat} {v : VtD} {P : List AV → Prop} (hv : l[n]? = some v) (h : P v.row) : ∀ e, (l.map VtD.row)[n]? = some e → P e :=
  trow_in fun u hu => by
    rw [hv] at hu
    cases hu
    exact h
theorem optT_use {α : Type} {l : List α} {n : Nat} {v : α} {P : α → Prop} (hv : l[n]? = some v) (h : P v) : ∀ x, l[n]? = some x → P x := fun x hx => by
  rw [hv] at hx
  cases hx
  exact h
def c_impl_isRound : Con := ⟨0, 0, false, fun xs hs _ K => match xs with
  | [.val (.int .i64 x)] => hs = [] ∧ K (B (inR x 0 30)) [] []
  | _ => False⟩
theorem k_impl_isRound : Keeps' Try.prog 58 c_impl_isRound := by
  refine keeps_of_vc mix TyT_ok cok_nil Try.func58 rfl rfl rfl ?_
  intro aargs hs Fs K h
  simp only [c_impl_isRound] at h
  split at h
  case h_2 => exact h.elim
  rename_i a
  obtain ⟨rfl, h⟩ := h
  have no : ∀ {b : Bool}, inR a 0 30 = b → K (B b) [] [] := fun e => by rw [← e]; exact h
  repeat' (first
    | ((conv => whnf); (first
      | refine brK_dec (fun _ => ?_) (fun _ => ?_)
      | refine brK_ndec (fun _ => ?_) (fun _ => ?_)
      | refine brK_not (fun _ => ?_) (fun _ => ?_)
      | refine brK_in (fun _ => ?_) (fun _ => ?_)
      | refine And.intro (by first | exact rfl | exact ⟨_, rfl, rfl⟩ | exact ⟨rfl, rfl, rfl⟩ | exact of_decide_eq_true rfl | exact trivial | assumption | omega | (show (_ ≤ _ ∧ _ ≤ _); omega) | (simp; omega) | exact ⟨by first | omega | (simp; omega), _, rfl, rfl⟩) ?_
      | refine Quo.l (And.intro (by first | exact rfl | assumption | omega | (simp; omega)) ?_)
      | refine Quo.r (And.intro (by omega) ?_)
      | refine Both.mk ?_ ?_
      | refine Exists.intro _ (And.intro rfl ?_)
      | refine fun _ => ?_))
    | exact rfl)
  all_goals (refine no ?_; simp [inR]; try omega)
def c_impl_isAuthor : Con := ⟨0, 0, false, fun xs hs _ K => match xs with
  | [.val (.int .i64 x)] => hs = [] ∧ K (B (inR x 0 6)) [] []
  | _ => False⟩
theorem k_impl_isAuthor : Keeps' Try.prog 59 c_impl_isAuthor := by
  refine keeps_of_vc mix TyT_ok cok_nil Try.func59 rfl rfl rfl ?_
  intro aargs hs Fs K h
  simp only [c_impl_isAuthor] at h
  split at h
  case h_2 => exact h.elim
  rename_i a
  obtain ⟨rfl, h⟩ := h
  have no : ∀ {b : Bool}, inR a 0 6 = b → K (B b) [] [] := fun e => by rw [← e]; exact h
  repeat' (first
    | ((conv => whnf); (first
      | refine brK_dec (fun _ => ?_) (fun _ => ?_)
      | refine brK_ndec (fun _ => ?_) (fun _ => ?_)
      | refine brK_not (fun _ => ?_) (fun _ => ?_)
      | refine brK_in (fun _ => ?_) (fun _ => ?_)
      | refine And.intro (by first | exact rfl | exact ⟨_, rfl, rfl⟩ | exact ⟨rfl, rfl, rfl⟩ | exact of_decide_eq_true rfl | exact trivial | assumption | omega | (show (_ ≤ _ ∧ _ ≤ _); omega) | (simp; omega) | exact ⟨by first | omega | (simp; omega), _, rfl, rfl⟩) ?_
      | refine Quo.l (And.intro (by first | exact rfl | assumption | omega | (simp; omega)) ?_)
      | refine Quo.r (And.intro (by omega) ?_)
      | refine Both.mk ?_ ?_
      | refine Exists.intro _ (And.intro rfl ?_)
      | refine fun _ => ?_))
    | exact rfl)
  all_goals (refine no ?_; rw [Bool.eq_iff_iff]; simp [inR]; try omega)
def c_impl_isFloor : Con := ⟨0, 0, false, fun xs hs _ K => match xs with
  | [.val (.int .i64 x)] => hs = [] ∧ K (B (inR x 0 31)) [] []
  | _ => False⟩
theorem k_impl_isFloor : Keeps' Try.prog 56 c_impl_isFloor := by
  refine keeps_of_vc mix TyT_ok cok_nil Try.func56 rfl rfl rfl ?_
  intro aargs hs Fs K h
  simp only [c_impl_isFloor] at h
  split at h
  case h_2 => exact h.elim
  rename_i a
  obtain ⟨rfl, h⟩ := h
  have no : ∀ {b : Bool}, inR a 0 31 = b → K (B b) [] [] := fun e => by rw [← e]; exact h
  repeat' (first
    | ((conv => whnf); (first
      | refine brK_dec (fun _ => ?_) (fun _ => ?_)
      | refine brK_ndec (fun _ => ?_) (fun _ => ?_)
      | refine brK_not (fun _ => ?_) (fun _ => ?_)
      | refine brK_in (fun _ => ?_) (fun _ => ?_)
      | refine And.intro (by first | exact rfl | exact ⟨_, rfl, rfl⟩ | exact ⟨rfl, rfl, rfl⟩ | exact of_decide_eq_true rfl | exact trivial | assumption | omega | (show (_ ≤ _ ∧ _ ≤ _); omega) | (simp; omega) | exact ⟨by first | omega | (simp; omega), _, rfl, rfl⟩) ?_
      | refine Quo.l (And.intro (by first | exact rfl | assumption | omega | (simp; omega)) ?_)
      | refine Quo.r (And.intro (by omega) ?_)
      | refine Both.mk ?_ ?_
      | refine Exists.intro _ (And.intro rfl ?_)
      | refine fun _ => ?_))
    | exact rfl)
  all_goals (refine no ?_; simp [inR]; try omega)
def c_spec_l12Vote : Con := ⟨0, 0, false, fun xs hs _ K => match xs with
  | [.agg [.val (.int .i64 r), .val (.int .i64 a), .val (.int .i64 d)]] => hs = [] ∧ K (B (vtV ⟨r, a, d⟩)) [] []
  | _ => False⟩
theorem k_spec_l12Vote : Keeps' Try.prog 21 c_spec_l12Vote := by
  refine keeps_of_vc mix TyT_ok (cok_cons k_spec_l6In Try.func54 rfl rfl (cok_cons k_spec_l2Digest Try.func55 rfl rfl cok_nil)) Try.func21 rfl rfl rfl ?_
  intro aargs hs Fs K h
  simp only [c_spec_l12Vote] at h
  split at h
  case h_2 => exact h.elim
  rename_i r a d
  obtain ⟨rfl, h⟩ := h
  have no : ∀ {b : Bool}, vtV ⟨r, a, d⟩ = b → K (B b) [] [] := fun e => by rw [← e]; exact h
  repeat' (first
    | ((conv => whnf); (first
      | refine brK_dec (fun _ => ?_) (fun _ => ?_)
      | refine brK_ndec (fun _ => ?_) (fun _ => ?_)
      | refine brK_not (fun _ => ?_) (fun _ => ?_)
      | refine brK_in (fun _ => ?_) (fun _ => ?_)
      | refine And.intro (by first | exact rfl | exact ⟨_, rfl, rfl⟩ | exact ⟨rfl, rfl, rfl⟩ | exact of_decide_eq_true rfl | exact trivial | assumption | omega | (show (_ ≤ _ ∧ _ ≤ _); omega) | (simp; omega) | exact ⟨by first | omega | (simp; omega), _, rfl, rfl⟩) ?_
      | refine Quo.l (And.intro (by first | exact rfl | assumption | omega | (simp; omega)) ?_)
      | refine Quo.r (And.intro (by omega) ?_)
      | refine Both.mk ?_ ?_
      | refine Exists.intro _ (And.intro rfl ?_)
      | refine fun _ => ?_))
    | exact rfl)
  all_goals exact no (by simp [vtV, *])
theorem k_impl_Vote_valid : Keeps' Try.prog 25 c_spec_l12Vote := by
  refine keeps_of_vc mix TyT_ok (cok_cons k_impl_isRound Try.func58 rfl rfl (cok_cons k_impl_isAuthor Try.func59 rfl rfl (cok_cons k_impl_isDigest Try.func60 rfl rfl cok_nil))) Try.func25 rfl rfl rfl ?_
  intro aargs hs Fs K h
  simp only [c_spec_l12Vote] at h
  split at h
  case h_2 => exact h.elim
  rename_i r a d
  obtain ⟨rfl, h⟩ := h
  have no : ∀ {b : Bool}, vtV ⟨r, a, d⟩ = b → K (B b) [] [] := fun e => by rw [← e]; exact h
  repeat' (first
    | ((conv => whnf); (first
      | refine brK_dec (fun _ => ?_) (fun _ => ?_)
      | refine brK_ndec (fun _ => ?_) (fun _ => ?_)
      | refine brK_not (fun _ => ?_) (fun _ => ?_)
      | refine brK_in (fun _ => ?_) (fun _ => ?_)
      | refine And.intro (by first | exact rfl | exact ⟨_, rfl, rfl⟩ | exact ⟨rfl, rfl, rfl⟩ | exact of_decide_eq_true rfl | exact trivial | assumption | omega | (show (_ ≤ _ ∧ _ ≤ _); omega) | (simp; omega) | exact ⟨by first | omega | (simp; omega), _, rfl, rfl⟩) ?_
      | refine Quo.l (And.intro (by first | exact rfl | assumption | omega | (simp; omega)) ?_)
      | refine Quo.r (And.intro (by omega) ?_)
      | refine Both.mk ?_ ?_
      | refine Exists.intro _ (And.intro rfl ?_)
      | refine fun _ => ?_))
    | exact rfl)
  all_goals exact no (by simp [vtV, *])
def c_spec_l12Before : Con := ⟨0, 0, false, fun xs hs _ K => match xs with
  | [.agg [.val (.int .i64 r), .val (.int .i64 a), .val (.int .i64 d)], .agg [.val (.int .i64 r'), .val (.int .i64 a'), .val (.int .i64 d')]] => hs = [] ∧ K (B (tltB ⟨r, a, d⟩ ⟨r', a', d'⟩)) [] []
  | _ => False⟩
theorem k_spec_l12Before : Keeps' Try.prog 53 c_spec_l12Before := by
  refine keeps_of_vc mix TyT_ok cok_nil Try.func53 rfl rfl rfl ?_
  intro aargs hs Fs K h
  simp only [c_spec_l12Before] at h
  split at h
  case h_2 => exact h.elim
  rename_i r a d r' a' d'
  obtain ⟨rfl, h⟩ := h
  have no : ∀ {b : Bool}, tltB ⟨r, a, d⟩ ⟨r', a', d'⟩ = b → K (B b) [] [] := fun e => by rw [← e]; exact h
  repeat' (first
    | ((conv => whnf); (first
      | refine brK_dec (fun _ => ?_) (fun _ => ?_)
      | refine brK_ndec (fun _ => ?_) (fun _ => ?_)
      | refine brK_not (fun _ => ?_) (fun _ => ?_)
      | refine brK_in (fun _ => ?_) (fun _ => ?_)
      | refine And.intro (by first | exact rfl | exact ⟨_, rfl, rfl⟩ | exact ⟨rfl, rfl, rfl⟩ | exact of_decide_eq_true rfl | exact trivial | assumption | omega | (show (_ ≤ _ ∧ _ ≤ _); omega) | (simp; omega) | exact ⟨by first | omega | (simp; omega), _, rfl, rfl⟩) ?_
      | refine Quo.l (And.intro (by first | exact rfl | assumption | omega | (simp; omega)) ?_)
      | refine Quo.r (And.intro (by omega) ?_)
      | refine Both.mk ?_ ?_
      | refine Exists.intro _ (And.intro rfl ?_)
      | refine fun _ => ?_))
    | exact rfl)
  all_goals exact no (by simp [tltB, *])
end Go.Proofs.Ytalbgcpfekmfoaa
