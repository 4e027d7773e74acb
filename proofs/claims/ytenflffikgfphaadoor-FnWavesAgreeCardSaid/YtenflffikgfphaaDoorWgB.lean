/-
Leaders, what a vertex depends on, votes: by the reference.
No conditions.
-/
import Derived.Test.YtenflffikgfphaaDoorWgA
import Derived.Test.YtenflffikgfphaaDoorHsA
namespace Go.Proofs.YtenflffikgfphaaDoor
open Go Go.Vc
set_option maxHeartbeats 1000000
set_option maxRecDepth 10000
abbrev boolRows (b : List Bool) : List (List AV) := b.map fun x => [B x]
theorem brow_in {b : List Bool} {n : Nat} {P : List AV → Prop} (h : ∀ x, b[n]? = some x → P [B x]) : ∀ e, (boolRows b)[n]? = some e → P e := by
  intro e he
  rw [List.getElem?_map] at he
  obtain ⟨v, hv, rfl⟩ := Option.map_eq_some_iff.1 he
  exact h v hv
theorem brow_use {b : List Bool} {n : Nat} {x : Bool} {P : List AV → Prop} (hx : b[n]? = some x) (h : P [B x]) : ∀ e, (boolRows b)[n]? = some e → P e :=
  brow_in fun u hu => by
    rw [hx] at hu
    cases hu
    exact h
theorem brow_set {b : List Bool} {n : Nat} {x : Bool} : (boolRows b).set n [B x] = boolRows (b.set n x) := by
  simp [boolRows, List.map_set]
def leadersV (c L : List Int) : Bool := L.all (fun x => inR x 0 ((c.length : Int) - 1)) && decide (L.length ≤ 15)
def c_spec_l21Leaders : Con := ⟨0, 0, false, fun xs hs _ K => match xs with
  | [.ints c, .ints L] => hs = [] ∧ c.length < 2000000 ∧ L.length < 2000000 ∧ K (B (leadersV c L)) [] []
  | _ => False⟩
theorem k_spec_l21Leaders : Keeps' Tryd.prog 32 c_spec_l21Leaders := by
  refine keeps_of_vc mix TyT_ok (cok_cons k_spec_l6In Tryd.func48 rfl rfl cok_nil) Tryd.func32 rfl rfl rfl ?_
  intro aargs hs Fs K h
  simp only [c_spec_l21Leaders] at h
  split at h
  case h_2 => exact h.elim
  rename_i c L
  obtain ⟨rfl, hc, hL, h⟩ := h
  have no : ∀ {b : Bool}, leadersV c L = b → K (B b) [] [] := fun e => by rw [← e]; exact h
  repeat' (first
    | ((conv => whnf); (first
      | refine brK_dec (fun _ => ?_) (fun _ => ?_)
      | refine brK_ndec (fun _ => ?_) (fun _ => ?_)
      | refine brK_not (fun _ => ?_) (fun _ => ?_)
      | refine brK_in (fun _ => ?_) (fun _ => ?_)
      | refine And.intro (by first | exact rfl | exact ⟨_, rfl, rfl⟩ | exact ⟨rfl, rfl, rfl⟩ | exact of_decide_eq_true rfl | exact trivial | assumption | omega | (show (_ ≤ _ ∧ _ ≤ _); omega) | (simp; omega) | exact ⟨by first | omega | (simp; omega), _, rfl, rfl⟩) ?_
      | refine Both.mk ?_ ?_
      | refine Exists.intro _ (And.intro rfl ?_)
      | refine opt_use (by assumption) ?_
      | refine vrow_use (by assumption) ?_
      | refine vrow_in (fun _ _ => ?_)
      | refine brow_use (by assumption) ?_
      | refine brow_in (fun _ _ => ?_)
      | refine fun _ => ?_))
    | exact rfl)
  refine loop_in (ι := Nat) (fun i => mkS 24 [(0, .ints c), (1, .ints L), (4, B false), (5, I i)] [] Fs) (fun i => i ≤ L.length ∧ ∀ (k : Nat) x, k < i → L[k]? = some x → inR x 0 ((c.length : Int) - 1) = true) (fun i => L.length - i) 0 [] ⟨Nat.zero_le _, fun j x hj => absurd hj (by omega)⟩ ?_ ?_
  · repeat' (first
      | ((conv => whnf); (first
        | refine brK_dec (fun _ => ?_) (fun _ => ?_)
        | refine brK_ndec (fun _ => ?_) (fun _ => ?_)
        | refine brK_not (fun _ => ?_) (fun _ => ?_)
        | refine brK_in (fun _ => ?_) (fun _ => ?_)
        | refine And.intro (by first | exact rfl | exact ⟨_, rfl, rfl⟩ | exact ⟨rfl, rfl, rfl⟩ | exact of_decide_eq_true rfl | exact trivial | assumption | omega | (show (_ ≤ _ ∧ _ ≤ _); omega) | (simp; omega) | exact ⟨by first | omega | (simp; omega), _, rfl, rfl⟩) ?_
        | refine Both.mk ?_ ?_
        | refine Exists.intro _ (And.intro rfl ?_)
        | refine opt_use (by assumption) ?_
        | refine vrow_use (by assumption) ?_
        | refine vrow_in (fun _ _ => ?_)
        | refine brow_use (by assumption) ?_
        | refine brow_in (fun _ _ => ?_)
        | refine fun _ => ?_))
      | exact rfl)
  intro i ⟨hi, hall⟩
  repeat' (first
    | ((conv => whnf); (first
      | refine brK_dec (fun _ => ?_) (fun _ => ?_)
      | refine brK_ndec (fun _ => ?_) (fun _ => ?_)
      | refine brK_not (fun _ => ?_) (fun _ => ?_)
      | refine brK_in (fun _ => ?_) (fun _ => ?_)
      | refine And.intro (by first | exact rfl | exact ⟨_, rfl, rfl⟩ | exact ⟨rfl, rfl, rfl⟩ | exact of_decide_eq_true rfl | exact trivial | assumption | omega | (show (_ ≤ _ ∧ _ ≤ _); omega) | (simp; omega) | exact ⟨by first | omega | (simp; omega), _, rfl, rfl⟩) ?_
      | refine Both.mk ?_ ?_
      | refine Exists.intro _ (And.intro rfl ?_)
      | refine opt_use (by assumption) ?_
      | refine vrow_use (by assumption) ?_
      | refine vrow_in (fun _ _ => ?_)
      | refine brow_use (by assumption) ?_
      | refine brow_in (fun _ _ => ?_)
      | refine fun _ => ?_))
    | exact rfl)
  · rename_i h0 x hx e
    have hx : L[i]? = some x := hx
    refine no ?_
    have : L.all (fun x => inR x 0 ((c.length : Int) - 1)) = false := by
      rw [List.all_eq_false]
      exact ⟨x, List.mem_of_getElem? hx, by rw [e]; simp⟩
    rw [leadersV, this, Bool.false_and]
  · rename_i h0 x hx e
    have hx : L[i]? = some x := hx
    refine ⟨i + 1, [], ⟨by omega, fun j y hj hy => ?_⟩, by omega, ?_⟩
    · rcases Nat.lt_or_ge j i with h1 | h1
      · exact hall j y h1 hy
      · obtain rfl : j = i := by omega
        rw [hx] at hy
        cases hy
        exact e
    repeat' (first
      | ((conv => whnf); (first
        | refine brK_dec (fun _ => ?_) (fun _ => ?_)
        | refine brK_ndec (fun _ => ?_) (fun _ => ?_)
        | refine brK_not (fun _ => ?_) (fun _ => ?_)
        | refine brK_in (fun _ => ?_) (fun _ => ?_)
        | refine And.intro (by first | exact rfl | exact ⟨_, rfl, rfl⟩ | exact ⟨rfl, rfl, rfl⟩ | exact of_decide_eq_true rfl | exact trivial | assumption | omega | (show (_ ≤ _ ∧ _ ≤ _); omega) | (simp; omega) | exact ⟨by first | omega | (simp; omega), _, rfl, rfl⟩) ?_
        | refine Both.mk ?_ ?_
        | refine Exists.intro _ (And.intro rfl ?_)
        | refine opt_use (by assumption) ?_
        | refine vrow_use (by assumption) ?_
        | refine vrow_in (fun _ _ => ?_)
        | refine brow_use (by assumption) ?_
        | refine brow_in (fun _ _ => ?_)
        | refine fun _ => ?_))
      | exact rfl)
  · rename_i h0
    refine no ?_
    have : L.all (fun x => inR x 0 ((c.length : Int) - 1)) = true := by
      rw [List.all_eq_true]
      intro x hx
      obtain ⟨k, hk⟩ := List.mem_iff_getElem?.1 hx
      exact hall k x (by have := (List.getElem?_eq_some_iff.1 hk).1; omega) hk
    rw [leadersV, this, Bool.true_and]
    apply decide_eq_decide.2
    omega
def c_spec_LeadersValid : Con := ⟨0, 0, false, fun xs hs _ K => match xs with
  | [.ints c, .ints L] => hs = [] ∧ c.length < 2000000 ∧ L.length < 2000000 ∧ K (B (comV c && leadersV c L)) [] []
  | _ => False⟩
theorem k_spec_LeadersValid : Keeps' Tryd.prog 15 c_spec_LeadersValid := by
  refine keeps_of_vc mix TyT_ok (cok_cons k_spec_CommitteeValid Tryd.func28 rfl rfl (cok_cons k_spec_l21Leaders Tryd.func32 rfl rfl cok_nil)) Tryd.func15 rfl rfl rfl ?_
  intro aargs hs Fs K h
  simp only [c_spec_LeadersValid] at h
  split at h
  case h_2 => exact h.elim
  rename_i c L
  obtain ⟨rfl, hc, hL, h⟩ := h
  have no : ∀ {b : Bool}, (comV c && leadersV c L) = b → K (B b) [] [] := fun e => by rw [← e]; exact h
  repeat' (first
    | ((conv => whnf); (first
      | refine brK_dec (fun _ => ?_) (fun _ => ?_)
      | refine brK_ndec (fun _ => ?_) (fun _ => ?_)
      | refine brK_not (fun _ => ?_) (fun _ => ?_)
      | refine brK_in (fun _ => ?_) (fun _ => ?_)
      | refine And.intro (by first | exact rfl | exact ⟨_, rfl, rfl⟩ | exact ⟨rfl, rfl, rfl⟩ | exact of_decide_eq_true rfl | exact trivial | assumption | omega | (show (_ ≤ _ ∧ _ ≤ _); omega) | (simp; omega) | exact ⟨by first | omega | (simp; omega), _, rfl, rfl⟩) ?_
      | refine Both.mk ?_ ?_
      | refine Exists.intro _ (And.intro rfl ?_)
      | refine opt_use (by assumption) ?_
      | refine vrow_use (by assumption) ?_
      | refine vrow_in (fun _ _ => ?_)
      | refine brow_use (by assumption) ?_
      | refine brow_in (fun _ _ => ?_)
      | refine fun _ => ?_))
    | exact rfl)
  all_goals (refine no ?_; simp_all)
def c_spec_l21Ok : Con := ⟨0, 0, false, fun xs hs _ K => match xs with
  | [.ints c, .sl 4 rows, .ints L] => hs = [] ∧ ∃ g : List VxD, rows = g.map VxD.row ∧ c.length < 2000000 ∧ g.length < 2000000 ∧ (∀ v ∈ g, v.p.length < 2000000) ∧ L.length < 2000000 ∧ K (B (gV c g && leadersV c L)) [] []
  | _ => False⟩
theorem k_spec_l21Ok : Keeps' Tryd.prog 26 c_spec_l21Ok := by
  refine keeps_of_vc mix TyT_ok (cok_cons k_spec_GraphValid Tryd.func14 rfl rfl (cok_cons k_spec_l21Leaders Tryd.func32 rfl rfl cok_nil)) Tryd.func26 rfl rfl rfl ?_
  intro aargs hs Fs K h
  simp only [c_spec_l21Ok] at h
  split at h
  case h_2 => exact h.elim
  rename_i c rows L
  obtain ⟨rfl, g, rfl, hc, hg, hp, hL, h⟩ := h
  have no : ∀ {b : Bool}, (gV c g && leadersV c L) = b → K (B b) [] [] := fun e => by rw [← e]; exact h
  repeat' (first
    | ((conv => whnf); (first
      | refine brK_dec (fun _ => ?_) (fun _ => ?_)
      | refine brK_ndec (fun _ => ?_) (fun _ => ?_)
      | refine brK_not (fun _ => ?_) (fun _ => ?_)
      | refine brK_in (fun _ => ?_) (fun _ => ?_)
      | refine And.intro (by first | exact rfl | exact ⟨_, rfl, rfl⟩ | exact ⟨rfl, rfl, rfl⟩ | exact of_decide_eq_true rfl | exact trivial | assumption | omega | (show (_ ≤ _ ∧ _ ≤ _); omega) | (simp; omega) | exact ⟨by first | omega | (simp; omega), _, rfl, rfl⟩) ?_
      | refine Both.mk ?_ ?_
      | refine Exists.intro _ (And.intro rfl ?_)
      | refine opt_use (by assumption) ?_
      | refine vrow_use (by assumption) ?_
      | refine vrow_in (fun _ _ => ?_)
      | refine brow_use (by assumption) ?_
      | refine brow_in (fun _ _ => ?_)
      | refine fun _ => ?_))
    | exact rfl)
  all_goals (refine no ?_; simp_all)
/-- The index of the leader's vertex of a wave, or -1. -/
def leadI (g : List VxD) (L : List Int) (n : Nat) : Int := fndI g (2 * n - 1) (L.getD (n - 1) 0)
theorem lead_cases (g : List VxD) (L : List Int) {n : Nat} (h0 : 1 ≤ n) (h1 : n ≤ L.length) : (∃ i, leadV g L n = some i ∧ leadI g L n = (i : Int) ∧ i < g.length) ∨ (leadV g L n = none ∧ leadI g L n = -1) := by
  have hl : L[n - 1]? = some (L.getD (n - 1) 0) := by
    rw [List.getD_eq_getElem?_getD, List.getElem?_eq_getElem (by omega)]
    rfl
  have e : leadV g L n = findV g (2 * n - 1) (L.getD (n - 1) 0) := by
    unfold leadV
    rw [if_neg (by omega), hl]
  unfold leadI
  rw [e]
  exact fnd_cases _ _ _
def c_spec_l21Leader : Con := ⟨0, 0, false, fun xs hs _ K => match xs with
  | [.sl 4 rows, .ints L, .val (.int .i64 w)] => hs = [] ∧ ∃ g : List VxD, rows = g.map VxD.row ∧ g.length < 2000000 ∧ L.length < 2000000 ∧ ∃ n : Nat, w = n ∧ 1 ≤ n ∧ n ≤ L.length ∧ K (I (leadI g L n)) [] []
  | _ => False⟩
theorem k_spec_l21Leader : Keeps' Tryd.prog 47 c_spec_l21Leader := by
  refine keeps_of_vc mix TyT_ok (cok_cons k_spec_l11Find Tryd.func53 rfl rfl cok_nil) Tryd.func47 rfl rfl rfl ?_
  intro aargs hs Fs K h
  simp only [c_spec_l21Leader] at h
  split at h
  case h_2 => exact h.elim
  rename_i rows L w
  obtain ⟨rfl, g, rfl, hg, hL, n, rfl, h0, h1, h⟩ := h
  repeat' (first
    | ((conv => whnf); (first
      | refine brK_dec (fun _ => ?_) (fun _ => ?_)
      | refine brK_ndec (fun _ => ?_) (fun _ => ?_)
      | refine brK_not (fun _ => ?_) (fun _ => ?_)
      | refine brK_in (fun _ => ?_) (fun _ => ?_)
      | refine And.intro (by first | exact rfl | exact ⟨_, rfl, rfl⟩ | exact ⟨rfl, rfl, rfl⟩ | exact of_decide_eq_true rfl | exact trivial | assumption | omega | (show (_ ≤ _ ∧ _ ≤ _); omega) | (simp; omega) | exact ⟨by first | omega | (simp; omega), _, rfl, rfl⟩) ?_
      | refine Both.mk ?_ ?_
      | refine Exists.intro _ (And.intro rfl ?_)
      | refine opt_use (by assumption) ?_
      | refine vrow_use (by assumption) ?_
      | refine vrow_in (fun _ _ => ?_)
      | refine brow_use (by assumption) ?_
      | refine brow_in (fun _ _ => ?_)
      | refine fun _ => ?_))
    | exact rfl)
  rename_i x hx
  have e1 : ((n : Int) - 1).toNat = n - 1 := by omega
  rw [e1] at hx
  have e : L.getD (n - 1) 0 = x := by rw [List.getD_eq_getElem?_getD, hx]; rfl
  rw [leadI, e] at h
  exact h
end Go.Proofs.YtenflffikgfphaaDoor
