/-
The validity of an epoch: small functions of the program and of the reference.
No conditions.
-/
import Derived.Test.YtalbgcpfekmfoaaTT
namespace Go.Proofs.Ytalbgcpfekmfoaa
open Go Go.Vc
set_option maxHeartbeats 1000000
set_option maxRecDepth 10000
theorem mix : Try.prog.follows .mixedOrders = true := by rfl
theorem take_all {α : Type} {l : List α} {i : Nat} {x : α} {p : α → Prop} (h : ∀ y ∈ l.take i, p y) (hx : l[i]? = some x) (hp : p x) : ∀ y ∈ l.take (i + 1), p y := by
  intro y hy
  rw [List.take_add_one, hx] at hy
  rcases List.mem_append.1 hy with hy | hy
  · exact h y hy
  · simp at hy; subst hy; exact hp
theorem all_take {α : Type} {l : List α} {i : Nat} {p : α → Prop} (h : ∀ y ∈ l.take i, p y) (hi : ¬ (i : Int) < l.length) : ∀ y ∈ l, p y := by
  rw [List.take_of_length_le (by omega)] at h; exact h
def inR (a b c : Int) : Bool := decide (b ≤ a) && decide (a ≤ c)
def comV (l : List Int) : Bool := l.all (inR · 1 9) && inR l.length 1 7

def c_spec_l6In : Con := ⟨0, 0, false, fun xs hs _ K => match xs with
  | [.val (.int .i64 a), .val (.int .i64 b), .val (.int .i64 c)] => hs = [] ∧ K (B (inR a b c)) [] []
  | _ => False⟩
theorem k_spec_l6In : Keeps' Try.prog 54 c_spec_l6In := by
  refine keeps_of_vc mix TyT_ok cok_nil Try.func54 rfl rfl rfl ?_
  intro aargs hs Fs K h
  simp only [c_spec_l6In] at h
  split at h
  case h_2 => exact h.elim
  rename_i a b c
  obtain ⟨rfl, h⟩ := h
  repeat' (first
    | ((conv => whnf); (first
      | refine brK_dec (fun _ => ?_) (fun _ => ?_)
      | refine brK_ndec (fun _ => ?_) (fun _ => ?_)
      | refine brK_not (fun _ => ?_) (fun _ => ?_)
      | refine brK_in (fun _ => ?_) (fun _ => ?_)
      | refine And.intro (by first | exact rfl | exact ⟨_, rfl, rfl⟩ | exact ⟨rfl, rfl, rfl⟩ | exact of_decide_eq_true rfl | exact trivial | assumption | omega | (show (_ ≤ _ ∧ _ ≤ _); omega) | (simp; omega) | exact ⟨by first | omega | (simp; omega), _, rfl, rfl⟩) ?_
      | refine Quo.l (And.intro (by first | exact rfl | assumption | omega | (simp; omega)) ?_)
      | refine Quo.r (And.intro (by omega) ?_)
      | refine Both.mk ?_ ?_
      | refine Exists.intro _ (And.intro rfl ?_)
      | refine fun _ => ?_))
    | exact rfl)
  all_goals (show K _ _ _; simpa [inR, *] using h)
def c_spec_CommitteeValid : Con := ⟨0, 0, false, fun xs hs _ K => match xs with
  | [.ints l] => hs = [] ∧ l.length < 2000000 ∧ K (B (comV l)) [] []
  | _ => False⟩
theorem k_spec_CommitteeValid : Keeps' Try.prog 69 c_spec_CommitteeValid := by
  refine keeps_of_vc mix TyT_ok (cok_cons k_spec_l6In Try.func54 rfl rfl cok_nil) Try.func69 rfl rfl rfl ?_
  intro aargs hs Fs K h
  simp only [c_spec_CommitteeValid] at h
  split at h
  case h_2 => exact h.elim
  rename_i l
  obtain ⟨rfl, hl, h⟩ := h
  repeat' (first
    | ((conv => whnf); (first
      | refine brK_dec (fun _ => ?_) (fun _ => ?_)
      | refine brK_ndec (fun _ => ?_) (fun _ => ?_)
      | refine brK_not (fun _ => ?_) (fun _ => ?_)
      | refine brK_in (fun _ => ?_) (fun _ => ?_)
      | refine And.intro (by first | exact rfl | exact ⟨_, rfl, rfl⟩ | exact ⟨rfl, rfl, rfl⟩ | exact of_decide_eq_true rfl | exact trivial | assumption | omega | (show (_ ≤ _ ∧ _ ≤ _); omega) | (simp; omega) | exact ⟨by first | omega | (simp; omega), _, rfl, rfl⟩) ?_
      | refine Quo.l (And.intro (by first | exact rfl | assumption | omega | (simp; omega)) ?_)
      | refine Quo.r (And.intro (by omega) ?_)
      | refine Both.mk ?_ ?_
      | refine Exists.intro _ (And.intro rfl ?_)
      | refine fun _ => ?_))
    | exact rfl)
  refine loop_in (ι := Nat) (fun i => mkS 19 [(0, .ints l), (2, B false), (3, I i)] [] Fs) (fun i => i ≤ l.length ∧ ∀ x ∈ l.take i, inR x 1 9 = true) (fun i => l.length - i) 0 [] ⟨Nat.zero_le _, by simp⟩ ?_ ?_
  · repeat' (first
      | ((conv => whnf); (first
        | refine brK_dec (fun _ => ?_) (fun _ => ?_)
        | refine brK_ndec (fun _ => ?_) (fun _ => ?_)
        | refine brK_not (fun _ => ?_) (fun _ => ?_)
        | refine brK_in (fun _ => ?_) (fun _ => ?_)
        | refine And.intro (by first | exact rfl | exact ⟨_, rfl, rfl⟩ | exact ⟨rfl, rfl, rfl⟩ | exact of_decide_eq_true rfl | exact trivial | assumption | omega | (show (_ ≤ _ ∧ _ ≤ _); omega) | (simp; omega) | exact ⟨by first | omega | (simp; omega), _, rfl, rfl⟩) ?_
        | refine Quo.l (And.intro (by first | exact rfl | assumption | omega | (simp; omega)) ?_)
        | refine Quo.r (And.intro (by omega) ?_)
        | refine Both.mk ?_ ?_
        | refine Exists.intro _ (And.intro rfl ?_)
        | refine fun _ => ?_))
      | exact rfl)
  intro i ⟨hi, hall⟩
  repeat' (first
    | ((conv => whnf); (first
      | refine brK_dec (fun _ => ?_) (fun _ => ?_)
      | refine brK_ndec (fun _ => ?_) (fun _ => ?_)
      | refine brK_not (fun _ => ?_) (fun _ => ?_)
      | refine brK_in (fun _ => ?_) (fun _ => ?_)
      | refine And.intro (by first | exact rfl | exact ⟨_, rfl, rfl⟩ | exact ⟨rfl, rfl, rfl⟩ | exact of_decide_eq_true rfl | exact trivial | assumption | omega | (show (_ ≤ _ ∧ _ ≤ _); omega) | (simp; omega) | exact ⟨by first | omega | (simp; omega), _, rfl, rfl⟩) ?_
      | refine Quo.l (And.intro (by first | exact rfl | assumption | omega | (simp; omega)) ?_)
      | refine Quo.r (And.intro (by omega) ?_)
      | refine Both.mk ?_ ?_
      | refine Exists.intro _ (And.intro rfl ?_)
      | refine fun _ => ?_))
    | exact rfl)
  · rename_i _ x hx hr
    show K _ _ _
    have : comV l = false := by
      simp only [comV, Bool.and_eq_false_iff, List.all_eq_false]
      exact .inl ⟨x, List.mem_of_getElem? hx, by simp [hr]⟩
    rwa [this] at h
  · rename_i hlt x hx hr
    refine ⟨i + 1, [], ⟨by omega, take_all hall hx hr⟩, by omega, ?_⟩
    repeat' (first
      | ((conv => whnf); (first
        | refine brK_dec (fun _ => ?_) (fun _ => ?_)
        | refine brK_ndec (fun _ => ?_) (fun _ => ?_)
        | refine brK_not (fun _ => ?_) (fun _ => ?_)
        | refine brK_in (fun _ => ?_) (fun _ => ?_)
        | refine And.intro (by first | exact rfl | exact ⟨_, rfl, rfl⟩ | exact ⟨rfl, rfl, rfl⟩ | exact of_decide_eq_true rfl | exact trivial | assumption | omega | (show (_ ≤ _ ∧ _ ≤ _); omega) | (simp; omega) | exact ⟨by first | omega | (simp; omega), _, rfl, rfl⟩) ?_
        | refine Quo.l (And.intro (by first | exact rfl | assumption | omega | (simp; omega)) ?_)
        | refine Quo.r (And.intro (by omega) ?_)
        | refine Both.mk ?_ ?_
        | refine Exists.intro _ (And.intro rfl ?_)
        | refine fun _ => ?_))
      | exact rfl)
  · rename_i hlt
    show K _ _ _
    have : comV l = inR l.length 1 7 := by
      simp only [comV, List.all_eq_true.2 (all_take hall hlt), Bool.true_and]
    rwa [this] at h
def c_spec_l2Digest : Con := ⟨0, 0, false, fun xs hs _ K => match xs with
  | [.val (.int .i64 a)] => hs = [] ∧ K (B (inR a 0 990)) [] []
  | _ => False⟩
theorem k_spec_l2Digest : Keeps' Try.prog 55 c_spec_l2Digest := by
  refine keeps_of_vc mix TyT_ok (cok_cons k_spec_l6In Try.func54 rfl rfl cok_nil) Try.func55 rfl rfl rfl ?_
  intro aargs hs Fs K h
  simp only [c_spec_l2Digest] at h
  split at h
  case h_2 => exact h.elim
  obtain ⟨rfl, h⟩ := h
  repeat' (first
    | ((conv => whnf); (first
      | refine brK_dec (fun _ => ?_) (fun _ => ?_)
      | refine brK_ndec (fun _ => ?_) (fun _ => ?_)
      | refine brK_not (fun _ => ?_) (fun _ => ?_)
      | refine brK_in (fun _ => ?_) (fun _ => ?_)
      | refine And.intro (by first | exact rfl | exact ⟨_, rfl, rfl⟩ | exact ⟨rfl, rfl, rfl⟩ | exact of_decide_eq_true rfl | exact trivial | assumption | omega | (show (_ ≤ _ ∧ _ ≤ _); omega) | (simp; omega) | exact ⟨by first | omega | (simp; omega), _, rfl, rfl⟩) ?_
      | refine Quo.l (And.intro (by first | exact rfl | assumption | omega | (simp; omega)) ?_)
      | refine Quo.r (And.intro (by omega) ?_)
      | refine Both.mk ?_ ?_
      | refine Exists.intro _ (And.intro rfl ?_)
      | refine fun _ => ?_))
    | exact rfl)
  exact h
def c_spec_l4Key : Con := ⟨0, 0, false, fun xs hs _ K => match xs with
  | [.val (.int .i64 a)] => hs = [] ∧ K (B (inR a 1 996)) [] []
  | _ => False⟩
def keysV (c k : List Int) : Bool := k.all (inR · 1 996) && (comV c && decide (k.length = c.length))
def c_spec_l4Keys : Con := ⟨0, 0, false, fun xs hs _ K => match xs with
  | [.ints c, .ints k] => hs = [] ∧ c.length < 2000000 ∧ k.length < 2000000 ∧ K (B (keysV c k)) [] []
  | _ => False⟩
def EpV (n : Int) (c k : List Int) (r : Int) : Bool := keysV c k && (inR n 0 99 && (inR r 0 990 && decide k.Nodup))
theorem nodup_no {k : List Int} {i j : Nat} {x : Int} (hj : j < i) (h1 : k[i]? = some x) (h2 : k[j]? = some x) : ¬ k.Nodup := by
  intro hn
  obtain ⟨hi, e1⟩ := List.getElem?_eq_some_iff.1 h1
  obtain ⟨hj', e2⟩ := List.getElem?_eq_some_iff.1 h2
  have := (List.getElem_inj hn).1 (e2.trans e1.symm)
  omega
theorem nodup_yes {k : List Int} {i : Nat} (h : ∀ a b x, a < i → b < a → k[a]? = some x → k[b]? ≠ some x) (hi : ¬ (i : Int) < k.length) : k.Nodup := by
  rw [List.nodup_iff_pairwise_ne, List.pairwise_iff_getElem]
  intro b a hb ha hba he
  exact h a b _ (by omega) hba (List.getElem?_eq_getElem ha) ((List.getElem?_eq_getElem hb).trans (by rw [he]))
def c_spec_EpochValid : Con := ⟨0, 0, false, fun xs hs _ K => match xs with
  | [.agg [.val (.int .i64 n), .ints c, .ints k, .val (.int .i64 r)]] => hs = [] ∧ c.length < 2000000 ∧ k.length < 2000000 ∧ K (B (EpV n c k r)) [] []
  | _ => False⟩
end Go.Proofs.Ytalbgcpfekmfoaa
