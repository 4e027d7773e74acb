/-
Weights in plain Lean: two sets that weigh more than all together have a member in common; a wave that is committed directly is in the past of all later vertices.
No conditions.
-/
import Derived.Test.YtenflffikgfphaaDoorGrP
namespace Go.Proofs.YtenflffikgfphaaDoor
open Go Go.Vc
/-- The weight of a set of members. -/
def wsum : List Int → (Nat → Bool) → Int
  | [], _ => 0
  | x :: c, S => (if S 0 = true then x else 0) + wsum c (fun i => S (i + 1))
theorem wsum_congr : ∀ {c : List Int} {S S' : Nat → Bool}, (∀ i, i < c.length → S i = S' i) → wsum c S = wsum c S'
  | [], _, _, _ => rfl
  | x :: c, S, S', h => by
    unfold wsum
    rw [h 0 (by simp), wsum_congr (c := c) (S' := fun i => S' (i + 1)) fun i hi => h (i + 1) (by simp; omega)]
theorem wsum_none : ∀ {c : List Int}, wsum c (fun _ => false) = 0
  | [] => rfl
  | x :: c => by
    unfold wsum
    rw [if_neg (by decide), wsum_none]
    rfl
theorem wsum_upd : ∀ {c : List Int} {S : Nat → Bool} {a : Nat} {x : Int}, c[a]? = some x → S a = false → wsum c (fun i => S i || i == a) = wsum c S + x
  | [], _, _, _, h, _ => by simp at h
  | y :: c, S, 0, x, h, hs => by
    simp at h
    subst h
    unfold wsum
    rw [hs, wsum_congr (c := c) (S := fun i => S (i + 1) || i + 1 == 0) (S' := fun i => S (i + 1)) fun i _ => by simp]
    simp
    omega
  | y :: c, S, a + 1, x, h, hs => by
    have := wsum_upd (c := c) (S := fun i => S (i + 1)) (a := a) (x := x) (by simpa using h) hs
    unfold wsum
    rw [wsum_congr (c := c) (S := fun i => S (i + 1) || i + 1 == a + 1) (S' := fun i => S (i + 1) || i == a) fun i _ => by simp, this]
    have e : (S 0 || (0 : Nat) == a + 1) = S 0 := by simp
    show (if (S 0 || (0 : Nat) == a + 1) = true then y else 0) + (wsum c (fun i => S (i + 1)) + x) = (if S 0 = true then y else 0) + wsum c (fun i => S (i + 1)) + x
    rw [e]
    omega
theorem wsum_disj : ∀ {c : List Int} {S S' : Nat → Bool}, (∀ x ∈ c, 0 ≤ x) → (∀ i, i < c.length → ¬ (S i = true ∧ S' i = true)) → wsum c S + wsum c S' ≤ c.sum
  | [], _, _, _, _ => by simp [wsum]
  | x :: c, S, S', h0, h => by
    have h1 := wsum_disj (c := c) (S := fun i => S (i + 1)) (S' := fun i => S' (i + 1)) (fun y hy => h0 y (by simp [hy])) fun i hi => h (i + 1) (by simp; omega)
    have h2 := h 0 (by simp)
    have h3 := h0 x (by simp)
    unfold wsum
    rw [List.sum_cons]
    cases e1 : S 0 <;> cases e2 : S' 0 <;> simp [e1, e2] at h2 ⊢ <;> omega
/-- A quorum and a support have a member in common. -/
theorem wsum_meet {c : List Int} {S S' : Nat → Bool} (h0 : ∀ x ∈ c, 0 ≤ x) (hS : 2 * c.sum / 3 + 1 ≤ wsum c S) (hS' : c.sum / 3 + 1 ≤ wsum c S') : ∃ i, i < c.length ∧ S i = true ∧ S' i = true := by
  apply Classical.byContradiction
  intro hn
  have := wsum_disj (c := c) (S := S) (S' := S') h0 fun i hi hh => hn ⟨i, hi, hh.1, hh.2⟩
  omega
theorem wsum_pos {c : List Int} {S : Nat → Bool} (h : 0 < wsum c S) : ∃ i, i < c.length ∧ S i = true := by
  apply Classical.byContradiction
  intro hn
  rw [wsum_congr (S' := fun _ => false) fun i hi => by
    cases e : S i with
    | false => rfl
    | true => exact absurd ⟨i, hi, e⟩ hn, wsum_none] at h
  omega
/-- The weight of a list of different members. -/
theorem wsum_list : ∀ {p : List Int} {c : List Int}, p.Nodup → (∀ x ∈ p, 0 ≤ x ∧ x < c.length) → (p.map fun x => c.getD x.toNat 0).sum = wsum c fun i => decide ((i : Int) ∈ p)
  | [], c, _, _ => by
    rw [wsum_congr (S' := fun _ => false) fun i _ => by simp, wsum_none]
    rfl
  | x :: p, c, hn, hx => by
    have h1 := wsum_list (p := p) (c := c) (List.nodup_cons.1 hn).2 fun y hy => hx y (by simp [hy])
    have h2 := hx x (by simp)
    have h3 : c[x.toNat]? = some (c.getD x.toNat 0) := by
      rw [List.getD_eq_getElem?_getD, List.getElem?_eq_getElem (by omega)]
      rfl
    have h4 := wsum_upd (c := c) (S := fun i => decide ((i : Int) ∈ p)) (a := x.toNat) h3 (by
      have : ((x.toNat : Nat) : Int) = x := by omega
      simp only [this]
      simpa using (List.nodup_cons.1 hn).1)
    rw [List.map_cons, List.sum_cons, h1, Int.add_comm, ← h4]
    refine wsum_congr fun i _ => ?_
    by_cases e : i = x.toNat
    · subst e
      have : ((x.toNat : Nat) : Int) = x := by omega
      simp [this]
    · have : ¬ ((i : Int) = x) := by omega
      simp [this, e]
/-- A graph that is valid, as far as the proofs ask. -/
structure Gok (c : List Int) (g : List VxD) : Prop where
  pos : ∀ x ∈ c, 0 ≤ x
  srt : sortedV g
  par : ∀ v ∈ g, v.p.Nodup ∧ (∀ x ∈ v.p, 0 ≤ x ∧ x < c.length) ∧ ∀ x ∈ v.p, ∃ j, findV g (v.r - 1) x = some j
  quo : ∀ v ∈ g, v.r ≠ 0 → 2 * c.sum / 3 + 1 ≤ (v.p.map fun x => c.getD x.toNat 0).sum
/-- The members whose vertex of a round refers to a member. -/
def votersV (g : List VxD) (r l : Int) (i : Nat) : Bool := match findV g r i with
  | some j => match g[j]? with
    | some v => decide (l ∈ v.p)
    | none => false
  | none => false
/-- What has enough support in round r is in the past of every later vertex. -/
theorem past_of_support {c : List Int} {g : List VxD} (hg : Gok c g) {r l : Int} (h0 : 0 ≤ r) (hs : c.sum / 3 + 1 ≤ wsum c (votersV g r l)) {k : Nat} (hk : findV g (r - 1) l = some k) :
    ∀ (n : Nat) (i : Nat) (v : VxD), g[i]? = some v → v.r = r + 1 + n → Reach g i k
  | 0, i, v, hv, hr => by
    have hm := List.mem_of_getElem? hv
    have hq := hg.quo v hm (by omega)
    obtain ⟨h1, h2, h3⟩ := hg.par v hm
    rw [wsum_list h1 h2] at hq
    obtain ⟨a, ha, e1, e2⟩ := wsum_meet hg.pos hq hs
    have e1 : (a : Int) ∈ v.p := of_decide_eq_true e1
    unfold votersV at e2
    cases hf : findV g r a with
    | none => rw [hf] at e2; cases e2
    | some j =>
      rw [hf] at e2
      simp only at e2
      cases hu : g[j]? with
      | none => rw [hu] at e2; cases e2
      | some u =>
        rw [hu] at e2
        have e2 : l ∈ u.p := of_decide_eq_true e2
        have e3 : v.r - 1 = r := by omega
        have s1 : Reach g i j := .step .refl (par_mem hv e1 (by rw [e3]; exact hf))
        obtain ⟨u', hu', e4, _⟩ := find_out hf
        rw [hu] at hu'
        cases hu'
        exact .step s1 (par_mem hu e2 (by rw [e4]; exact hk))
  | n + 1, i, v, hv, hr => by
    have hm := List.mem_of_getElem? hv
    have hq := hg.quo v hm (by omega)
    obtain ⟨h1, h2, h3⟩ := hg.par v hm
    have hc0 : 0 ≤ c.sum := by
      have := wsum_disj (c := c) (S := fun _ => false) (S' := fun _ => false) hg.pos (by simp)
      rw [wsum_none] at this
      omega
    rw [wsum_list h1 h2] at hq
    obtain ⟨a, ha, e1⟩ := wsum_pos (c := c) (S := fun i => decide ((i : Int) ∈ v.p)) (by omega)
    have e1 : (a : Int) ∈ v.p := of_decide_eq_true e1
    obtain ⟨j, hj⟩ := h3 _ e1
    obtain ⟨u, hu, e2, _⟩ := find_out hj
    have s1 : Reach g i j := .step .refl (par_mem hv e1 hj)
    exact reach_trans s1 (past_of_support hg h0 hs hk n j u hu (by omega))
end Go.Proofs.YtenflffikgfphaaDoor
