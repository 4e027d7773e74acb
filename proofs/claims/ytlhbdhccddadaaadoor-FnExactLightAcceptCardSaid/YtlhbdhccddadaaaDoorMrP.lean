/-
Receipts in a tree of digests: what their check computes, in plain Lean; an outcome turned about is rejected.
No conditions.
-/
import Derived.Test.YtlhbdhccddadaaaDoorMrA
namespace Go.Proofs.YtlhbdhccddadaaaDoor
open Go Go.Vc
set_option maxHeartbeats 1000000
set_option maxRecDepth 10000
def bI (d : Bool) : Int := if d then 1 else 0
/-- The digest of a receipt. -/
def rdg (i : Int) (d : Bool) (g : Int) : Int := if inR i 0 15 && inR g 0 990 then hp (2 * i + bI d) g else -1
def rcV (root s i : Int) (d : Bool) (g : Int) (p : List Int) : Bool := (inR i 0 15 && inR g 0 990) && mkV root s i (rdg i d g) p
theorem hp_left {n n' q : Int} (h1 : 0 ≤ n ∧ n ≤ 990) (h2 : 0 ≤ n' ∧ n' ≤ 990) (h : n ≠ n') : hp n q ≠ hp n' q := by
  unfold hp
  omega
theorem hp_right {n n' q : Int} (h1 : 0 ≤ n ∧ n ≤ 990) (h2 : 0 ≤ n' ∧ n' ≤ 990) (h : n ≠ n') : hp q n ≠ hp q n' := by
  unfold hp
  omega
theorem mkl_diff : ∀ (f : Nat) (s i n n' : Int) (p : List Int), 0 ≤ n ∧ n ≤ 990 → 0 ≤ n' ∧ n' ≤ 990 → n ≠ n' → ∀ m q, mkl f s i n p = some (m, q) → ∃ m', mkl f s i n' p = some (m', q) ∧ m ≠ m'
  | 0, s, i, n, n', p, _, _, h, m, q, e => by
    simp only [mkl, Option.some.injEq, Prod.mk.injEq] at e
    obtain ⟨rfl, rfl⟩ := e
    exact ⟨n', rfl, h⟩
  | f + 1, s, i, n, n', p, h1, h2, h, m, q, e => by
    simp only [mkl] at e ⊢
    by_cases hs : 1 < s
    · rw [if_pos hs] at e ⊢
      by_cases hb : i + 1 - i % 2 * 2 < s
      · rw [if_pos hb] at e ⊢
        cases p with
        | nil => cases e
        | cons x p =>
          simp only at e ⊢
          by_cases hx : inR x 0 990 = true
          · rw [if_pos hx] at e ⊢
            by_cases hl : i < i + 1 - i % 2 * 2
            · rw [if_pos hl] at e ⊢
              exact mkl_diff f _ _ _ _ p (hp_rng _ _) (hp_rng _ _) (hp_left h1 h2 h) m q e
            · rw [if_neg hl] at e ⊢
              exact mkl_diff f _ _ _ _ p (hp_rng _ _) (hp_rng _ _) (hp_right h1 h2 h) m q e
          · rw [if_neg hx] at e
            cases e
      · rw [if_neg hb] at e ⊢
        exact mkl_diff f _ _ _ _ p h1 h2 h m q e
    · rw [if_neg hs] at e ⊢
      simp only [Option.some.injEq, Prod.mk.injEq] at e
      obtain ⟨rfl, rfl⟩ := e
      exact ⟨n', rfl, h⟩
theorem mkV_diff {root s i n n' : Int} {p : List Int} (h2 : 0 ≤ n' ∧ n' ≤ 990) (h : n ≠ n') (hv : mkV root s i n p = true) : mkV root s i n' p = false := by
  unfold mkV at hv ⊢
  simp only [Bool.and_eq_true] at hv
  obtain ⟨_, _, hn, hv⟩ := hv
  have h1 := inR_out hn
  generalize hr : mkl 4 s i n p = o at hv
  match o, hv with
  | some (m, []), hv =>
    obtain ⟨m', e1, e2⟩ := mkl_diff 4 s i n n' p h1 h2 h m [] hr
    simp only [decide_eq_true_eq] at hv
    rw [e1]
    have : decide (m' = root) = false := decide_eq_false (fun e => e2 (hv.trans e.symm))
    simp only [this, Bool.and_false]
theorem rcV_flip {root s i g : Int} {d : Bool} {p : List Int} (h : rcV root s i d g p = true) : rcV root s i (!d) g p = false := by
  unfold rcV at h ⊢
  simp only [Bool.and_eq_true] at h
  obtain ⟨⟨h1, h2⟩, h3⟩ := h
  have e : ∀ b, rdg i b g = hp (2 * i + bI b) g := fun b => by simp [rdg, h1, h2]
  have g1 := inR_out h1
  rw [e] at h3
  rw [e, mkV_diff (hp_rng _ _) ?_ h3, Bool.and_false]
  refine hp_left ?_ ?_ ?_
  all_goals cases d <;> simp [bI] <;> omega
theorem rdg_ok {i g : Int} {d : Bool} (h1 : inR i 0 15 = true) (h2 : inR g 0 990 = true) : 0 ≤ rdg i d g ∧ rdg i d g ≤ 990 := by
  rw [rdg, h1, h2]
  exact hp_rng _ _
/-- A proof that is accepted holds digests alone. -/
theorem mkl_all : ∀ (f : Nat) (s i n : Int) (p : List Int) (m : Int) (q : List Int), mkl f s i n p = some (m, q) → (∀ x ∈ q, inR x 0 990 = true) → ∀ x ∈ p, inR x 0 990 = true
  | 0, s, i, n, p, m, q, e, hq => by
    simp only [mkl, Option.some.injEq, Prod.mk.injEq] at e
    rw [e.2]; exact hq
  | f + 1, s, i, n, p, m, q, e, hq => by
    simp only [mkl] at e
    by_cases hs : 1 < s
    · rw [if_pos hs] at e
      by_cases hb : i + 1 - i % 2 * 2 < s
      · rw [if_pos hb] at e
        cases p with
        | nil => cases e
        | cons x p =>
          simp only at e
          by_cases hx : inR x 0 990 = true
          · rw [if_pos hx] at e
            intro y hy
            rcases List.mem_cons.1 hy with rfl | hy
            · exact hx
            · exact mkl_all f _ _ _ p m q e hq y hy
          · rw [if_neg hx] at e
            cases e
      · rw [if_neg hb] at e
        exact mkl_all f _ _ _ p m q e hq
    · rw [if_neg hs] at e
      simp only [Option.some.injEq, Prod.mk.injEq] at e
      rw [e.2]; exact hq
theorem mkV_all {root s i n : Int} {p : List Int} (hv : mkV root s i n p = true) : ∀ x ∈ p, inR x 0 990 = true := by
  unfold mkV at hv
  simp only [Bool.and_eq_true] at hv
  obtain ⟨_, _, _, hv⟩ := hv
  generalize hr : mkl 4 s i n p = o at hv
  match o, hv with
  | some (m, []), hv => exact mkl_all 4 s i n p m [] hr (by simp)
end Go.Proofs.YtlhbdhccddadaaaDoor
