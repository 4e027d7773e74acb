/-
What the laws on the next epoch need beside the steps.
No conditions.
-/
import Derived.Test.YtgfpcjomgmdapaaNjA
import Derived.Test.YtgfpcjomgmdapaaNxD
import Derived.Test.YtgfpcjomgmdapaaLxB
namespace Go.Proofs.Ytgfpcjomgmdapaa
open Go Go.Vc
set_option maxHeartbeats 2000000
set_option maxRecDepth 10000
theorem keepN_nil (c : List Int) : keepN c [] c.length = c := delR_keep (c := c) (gs := []) ⟨List.Pairwise.nil, by simp⟩ ▸ rfl
theorem keepN_pre (l gs : List Int) : ∀ d i, ∃ t, keepN l gs (i + d) = keepN l gs i ++ t
  | 0, _ => ⟨[], by simp⟩
  | d + 1, i => by
    obtain ⟨t, ht⟩ := keepN_pre l gs d i
    exact ⟨t ++ if ((i + d : Nat) : Int) ∈ gs then [] else [l.getD (i + d) 0], by rw [← Nat.add_assoc, keepN_succ, ht, List.append_assoc]⟩
theorem keepN_eqlen (c k gs : List Int) (i : Nat) : (keepN c gs i).length = (keepN k gs i).length := by simp [keepN]
theorem keepN_at {c gs js : List Int} {i : Nat} {x : Int} (hx : c[i]? = some x) (h : (i : Int) ∉ gs) : (keepN c gs c.length ++ js)[(keepN c gs i).length]? = some x := by
  obtain ⟨hi, _⟩ := List.getElem?_eq_some_iff.1 hx
  obtain ⟨t, ht⟩ := keepN_pre c gs (c.length - (i + 1)) (i + 1)
  rw [show i + 1 + (c.length - (i + 1)) = c.length by omega, keepN_yes hx h] at ht
  rw [ht]
  simp
theorem nx_nil {n : Int} {c k : List Int} {r : Int} {gs : List Int} {js : List (Int × Int)} {r2 : Int} (h : nxV n c k r gs js r2 = true) : nxV n c k r [] [] r2 = true := by
  simp only [nxV, Bool.and_eq_true] at h ⊢
  obtain ⟨h1, h2, h3⟩ := h
  refine ⟨h1, by simp [memV], ?_⟩
  simp only [nxC, nxK, fsts, snds, List.map_nil, List.append_nil, keepN_nil]
  simp only [EpV, Bool.and_eq_true] at h1 h3 ⊢
  exact ⟨h1.1, h3.2.1, h3.2.2.1, h1.2.2.2⟩
theorem del_take {g : Int} {l : List Int} {m : Nat} (h : (m : Int) ≤ g) : (del g l).take m = l.take m := by
  unfold del
  by_cases hl : g.toNat ≤ l.length
  · rw [List.take_append_of_le_length (by simp; omega), List.take_take, Nat.min_eq_left (by omega)]
  · rw [List.take_of_length_le (by omega : l.length ≤ g.toNat), List.drop_eq_nil_of_le (by omega), List.append_nil]
theorem delR_take {c : List Int} {m : Nat} : ∀ {gs : List Int}, (∀ g ∈ gs, (m : Int) ≤ g) → (delR c gs).take m = c.take m
  | [], _ => rfl
  | g :: gs, h => by
    show (del g (delR c gs)).take m = _
    rw [del_take (h g (by simp)), delR_take fun x hx => h x (by simp [hx])]
theorem del_sum {g : Nat} {l : List Int} {x : Int} (hx : l[g]? = some x) : (del (g : Int) l).sum = l.sum - x := by
  obtain ⟨hi, e⟩ := List.getElem?_eq_some_iff.1 hx
  have e1 : l = l.take g ++ x :: l.drop (g + 1) := by rw [← e, List.getElem_cons_drop, List.take_append_drop]
  have e2 : l.sum = (l.take g).sum + (x + (l.drop (g + 1)).sum) := by
    conv => lhs; rw [e1]
    rw [List.sum_append, List.sum_cons]
  unfold del
  rw [List.sum_append, Int.toNat_natCast]
  omega
theorem delR_sum {c : List Int} : ∀ {gs : List Int}, Asc c.length gs → (delR c gs).sum = c.sum - wgt c gs
  | [], _ => by simp [delR, wgt]
  | g :: gs, h => by
    obtain ⟨h1, h2, h3, h4⟩ := h.tail
    obtain ⟨m, rfl⟩ : ∃ m : Nat, g = m := ⟨g.toNat, by omega⟩
    have hm : m < c.length := by omega
    have et : (delR c gs).take (m + 1) = c.take (m + 1) := delR_take fun x hx => by have := h2 x hx; omega
    have ex : (delR c gs)[m]? = some c[m] := by
      have := congrArg (fun l => l[m]?) et
      simpa [List.getElem?_take, hm] using this
    show (del (m : Int) (delR c gs)).sum = _
    rw [del_sum ex, delR_sum h1]
    simp [wgt, hm]
    omega
theorem nx_sum {c gs : List Int} (h : memV c gs = true) : (nxC c gs []).sum = c.sum - wgt c gs := by
  simp only [nxC, fsts, List.map_nil, List.append_nil]
  rw [← delR_keep (memV_asc h), delR_sum (memV_asc h)]
def c_impl_CommitteeTotal : Con := ⟨0, 0, false, fun xs hs _ K => match xs with
  | [.ints c] => hs = [] ∧ c.length < 2000000 ∧ K (I (if comV c = true then c.sum else -1)) [] []
  | _ => False⟩
theorem k_impl_CommitteeTotal : Keeps' Try.prog 26 c_impl_CommitteeTotal := by
  refine keeps_of_vc mix TyT_ok (cok_cons k_impl_committee_valid Try.func48 rfl rfl (cok_cons k_impl_committee_total Try.func49 rfl rfl cok_nil)) Try.func26 rfl rfl rfl ?_
  intro aargs hs Fs K h
  simp only [c_impl_CommitteeTotal] at h
  split at h
  case h_2 => exact h.elim
  rename_i c
  obtain ⟨rfl, hc, h⟩ := h
  cases hv : comV c
  · rw [hv, if_neg (by simp)] at h
    repeat' (first
      | ((conv => whnf); (first
        | refine brK_dec (fun _ => ?_) (fun _ => ?_)
        | refine brK_ndec (fun _ => ?_) (fun _ => ?_)
        | refine brK_not (fun _ => ?_) (fun _ => ?_)
        | refine brK_in (fun _ => ?_) (fun _ => ?_)
        | refine And.intro (by first | exact rfl | exact ⟨_, rfl, rfl⟩ | exact ⟨rfl, rfl, rfl⟩ | exact of_decide_eq_true rfl | exact trivial | assumption | omega | (show (_ ≤ _ ∧ _ ≤ _); omega) | (simp; omega) | exact ⟨by first | omega | (simp; omega), _, rfl, rfl⟩) ?_
        | refine Both.mk ?_ ?_
        | refine Exists.intro _ (And.intro rfl ?_)
        | refine fun _ => ?_))
      | exact rfl)
    all_goals first
      | exact h
      | (exfalso; simp_all; done)
  · obtain ⟨l1, l2, l3⟩ := com_out hv
    rw [hv, if_pos rfl] at h
    repeat' (first
      | ((conv => whnf); (first
        | refine brK_dec (fun _ => ?_) (fun _ => ?_)
        | refine brK_ndec (fun _ => ?_) (fun _ => ?_)
        | refine brK_not (fun _ => ?_) (fun _ => ?_)
        | refine brK_in (fun _ => ?_) (fun _ => ?_)
        | refine And.intro (by first | exact rfl | exact ⟨_, rfl, rfl⟩ | exact ⟨rfl, rfl, rfl⟩ | exact of_decide_eq_true rfl | exact trivial | assumption | omega | (show (_ ≤ _ ∧ _ ≤ _); omega) | (simp; omega) | exact ⟨by first | omega | (simp; omega), _, rfl, rfl⟩) ?_
        | refine Both.mk ?_ ?_
        | refine Exists.intro _ (And.intro rfl ?_)
        | refine fun _ => ?_))
      | exact rfl)
    all_goals first
      | exact h
      | (exfalso; simp_all; done)
def c_laws_hasInt : Con := ⟨0, 0, false, fun xs hs _ K => match xs with
  | [.ints l, .val (.int .i64 x)] => hs = [] ∧ l.length < 2000000 ∧ K (B (decide (x ∈ l))) [] []
  | _ => False⟩
theorem k_laws_hasInt : Keeps' Try.prog 24 c_laws_hasInt := by
  refine keeps_of_vc mix TyT_ok cok_nil Try.func24 rfl rfl rfl ?_
  intro aargs hs Fs K h
  simp only [c_laws_hasInt] at h
  split at h
  case h_2 => exact h.elim
  rename_i l x
  obtain ⟨rfl, hl, h⟩ := h
  have no : ∀ {b : Bool}, decide (x ∈ l) = b → K (B b) [] [] := fun e => by rw [← e]; exact h
  repeat' (first
    | ((conv => whnf); (first
      | refine brK_dec (fun _ => ?_) (fun _ => ?_)
      | refine brK_ndec (fun _ => ?_) (fun _ => ?_)
      | refine brK_not (fun _ => ?_) (fun _ => ?_)
      | refine brK_in (fun _ => ?_) (fun _ => ?_)
      | refine And.intro (by first | exact rfl | exact ⟨_, rfl, rfl⟩ | exact ⟨rfl, rfl, rfl⟩ | exact of_decide_eq_true rfl | exact trivial | assumption | omega | (show (_ ≤ _ ∧ _ ≤ _); omega) | (simp; omega) | exact ⟨by first | omega | (simp; omega), _, rfl, rfl⟩) ?_
      | refine Both.mk ?_ ?_
      | refine Exists.intro _ (And.intro rfl ?_)
      | refine fun _ => ?_))
    | exact rfl)
  refine loop_in (ι := Nat) (fun i => mkS 18 [(0, .ints l), (1, I x), (4, B false), (5, I i)] [] Fs) (fun i => i ≤ l.length ∧ ∀ y ∈ l.take i, y ≠ x) (fun i => l.length - i) 0 [] ⟨Nat.zero_le _, by simp⟩ ?_ ?_
  · repeat' (first
      | ((conv => whnf); (first
        | refine brK_dec (fun _ => ?_) (fun _ => ?_)
        | refine brK_ndec (fun _ => ?_) (fun _ => ?_)
        | refine brK_not (fun _ => ?_) (fun _ => ?_)
        | refine brK_in (fun _ => ?_) (fun _ => ?_)
        | refine And.intro (by first | exact rfl | exact ⟨_, rfl, rfl⟩ | exact ⟨rfl, rfl, rfl⟩ | exact of_decide_eq_true rfl | exact trivial | assumption | omega | (show (_ ≤ _ ∧ _ ≤ _); omega) | (simp; omega) | exact ⟨by first | omega | (simp; omega), _, rfl, rfl⟩) ?_
        | refine Both.mk ?_ ?_
        | refine Exists.intro _ (And.intro rfl ?_)
        | refine fun _ => ?_))
      | exact rfl)
  intro i ⟨hi, hall⟩
  repeat' (first
    | ((conv => whnf); (first
      | refine brK_dec (fun _ => ?_) (fun _ => ?_)
      | refine brK_ndec (fun _ => ?_) (fun _ => ?_)
      | refine brK_not (fun _ => ?_) (fun _ => ?_)
      | refine brK_in (fun _ => ?_) (fun _ => ?_)
      | refine And.intro (by first | exact rfl | exact ⟨_, rfl, rfl⟩ | exact ⟨rfl, rfl, rfl⟩ | exact of_decide_eq_true rfl | exact trivial | assumption | omega | (show (_ ≤ _ ∧ _ ≤ _); omega) | (simp; omega) | exact ⟨by first | omega | (simp; omega), _, rfl, rfl⟩) ?_
      | refine Both.mk ?_ ?_
      | refine Exists.intro _ (And.intro rfl ?_)
      | refine fun _ => ?_))
    | exact rfl)
  · rename_i hil y hy e
    exact no (decide_eq_true (by rw [← e]; exact List.mem_of_getElem? hy))
  · rename_i hil y hy e
    refine ⟨i + 1, [], ⟨by omega, take_all hall hy e⟩, by omega, ?_⟩
    repeat' (first
      | ((conv => whnf); (first
        | refine brK_dec (fun _ => ?_) (fun _ => ?_)
        | refine brK_ndec (fun _ => ?_) (fun _ => ?_)
        | refine brK_not (fun _ => ?_) (fun _ => ?_)
        | refine brK_in (fun _ => ?_) (fun _ => ?_)
        | refine And.intro (by first | exact rfl | exact ⟨_, rfl, rfl⟩ | exact ⟨rfl, rfl, rfl⟩ | exact of_decide_eq_true rfl | exact trivial | assumption | omega | (show (_ ≤ _ ∧ _ ≤ _); omega) | (simp; omega) | exact ⟨by first | omega | (simp; omega), _, rfl, rfl⟩) ?_
        | refine Both.mk ?_ ?_
        | refine Exists.intro _ (And.intro rfl ?_)
        | refine fun _ => ?_))
      | exact rfl)
  · rename_i hil
    rw [List.take_of_length_le (by omega)] at hall
    exact no (decide_eq_false fun hx => hall x hx rfl)
end Go.Proofs.Ytgfpcjomgmdapaa
