/-
Votes in plain Lean: counted over the vertices of a round, or over the members; graphs checked vertex by vertex.
No conditions.
-/
import Derived.Test.YtenflffikgfphaaDoorVwP
namespace Go.Proofs.YtenflffikgfphaaDoor
open Go Go.Vc
theorem pair_of_sorted {g : List VxD} (h : sortedV g) : g.Pairwise VxD.lt :=
  List.pairwise_iff_getElem.2 fun i j hi hj hij => h i j _ _ hij (List.getElem?_eq_getElem hi) (List.getElem?_eq_getElem hj)
/-- The votes of the vertices of a round that refer to a member. -/
def votS (c : List Int) (r l : Int) : List VxD → Int
  | [] => 0
  | v :: g => (if v.r = r ∧ l ∈ v.p then c.getD v.a.toNat 0 else 0) + votS c r l g
theorem votS_app {c : List Int} {r l : Int} : ∀ {g g' : List VxD}, votS c r l (g ++ g') = votS c r l g + votS c r l g'
  | [], g' => by simp [votS]
  | v :: g, g' => by
    show (if v.r = r ∧ l ∈ v.p then c.getD v.a.toNat 0 else 0) + votS c r l (g ++ g') = (if v.r = r ∧ l ∈ v.p then c.getD v.a.toNat 0 else 0) + votS c r l g + votS c r l g'
    rw [votS_app]
    omega
theorem votS_take {c : List Int} {r l : Int} {g : List VxD} {i : Nat} {v : VxD} (hv : g[i]? = some v) : votS c r l (g.take (i + 1)) = votS c r l (g.take i) + if v.r = r ∧ l ∈ v.p then c.getD v.a.toNat 0 else 0 := by
  rw [List.take_add_one, hv, votS_app]
  show _ + votS c r l [v] = _
  simp [votS]
def votA (r l : Int) (g : List VxD) : List Int := (g.filter fun v => decide (v.r = r ∧ l ∈ v.p)).map VxD.a
theorem votS_list {c : List Int} {r l : Int} : ∀ {g : List VxD}, votS c r l g = ((votA r l g).map fun x => c.getD x.toNat 0).sum
  | [] => rfl
  | v :: g => by
    have ih := votS_list (c := c) (r := r) (l := l) (g := g)
    show (if v.r = r ∧ l ∈ v.p then c.getD v.a.toNat 0 else 0) + votS c r l g = _
    rw [ih]
    unfold votA
    rw [List.filter_cons]
    by_cases h : v.r = r ∧ l ∈ v.p
    · rw [if_pos h, if_pos (by simpa using h), List.map_cons, List.map_cons, List.sum_cons]
    · rw [if_neg h, if_neg (by simpa using h)]
      omega
theorem votA_nodup {r l : Int} {g : List VxD} (hs : sortedV g) : (votA r l g).Nodup := by
  unfold votA
  have h1 := (pair_of_sorted hs).filter fun v => decide (v.r = r ∧ l ∈ v.p)
  refine List.pairwise_map.2 (List.pairwise_iff_forall_sublist.2 ?_)
  intro a b hab
  have hlt := List.pairwise_iff_forall_sublist.1 h1 hab
  have ha := List.mem_filter.1 (hab.subset (show a ∈ [a, b] by simp))
  have hb := List.mem_filter.1 (hab.subset (show b ∈ [a, b] by simp))
  have ha2 := (of_decide_eq_true ha.2).1
  have hb2 := (of_decide_eq_true hb.2).1
  unfold VxD.lt at hlt
  omega
theorem votA_mem {r l : Int} {g : List VxD} (hs : sortedV g) (i : Nat) : decide ((i : Int) ∈ votA r l g) = votersV g r l i := by
  have hiff : (i : Int) ∈ votA r l g ↔ votersV g r l i = true := by
    unfold votA
    rw [List.mem_map]
    constructor
    · rintro ⟨v, hv, hi⟩
      obtain ⟨hm, hp⟩ := List.mem_filter.1 hv
      obtain ⟨hr, hl⟩ := of_decide_eq_true hp
      obtain ⟨j, hj⟩ := List.mem_iff_getElem?.1 hm
      have := find_at hs hj
      rw [hr, hi] at this
      unfold votersV
      rw [this]
      simp only [hj]
      exact decide_eq_true hl
    · intro h
      unfold votersV at h
      cases hf : findV g r i with
      | none => rw [hf] at h; cases h
      | some j =>
        rw [hf] at h
        obtain ⟨v, hv, e1, e2⟩ := find_out hf
        simp only [hv] at h
        exact ⟨v, List.mem_filter.2 ⟨List.mem_of_getElem? hv, decide_eq_true ⟨e1, of_decide_eq_true h⟩⟩, e2⟩
  cases hb : votersV g r l i with
  | true => exact decide_eq_true (hiff.2 hb)
  | false => exact decide_eq_false fun h => by rw [hiff.1 h] at hb; cases hb
/-- Both ways of counting. -/
theorem votS_eq {c : List Int} {r l : Int} {g : List VxD} (hs : sortedV g) (ha : ∀ v ∈ g, 0 ≤ v.a ∧ v.a < c.length) : votS c r l g = wsum c (votersV g r l) := by
  rw [votS_list, wsum_list (votA_nodup hs) fun x hx => ?_]
  · exact wsum_congr fun i _ => votA_mem hs i
  · obtain ⟨v, hv, rfl⟩ := List.mem_map.1 hx
    exact ha v (List.mem_filter.1 hv).1
/-- The weight of the first n members of a set. -/
theorem wsum_take {c : List Int} {S : Nat → Bool} : ∀ {n : Nat} {x : Int}, c[n]? = some x → wsum (c.take (n + 1)) S = wsum (c.take n) S + if S n = true then x else 0 := by
  intro n
  induction n generalizing c S with
  | zero =>
    intro x h
    cases c with
    | nil => simp at h
    | cons y c => simp at h; subst h; simp [wsum]
  | succ n ih =>
    intro x h
    cases c with
    | nil => simp at h
    | cons y c =>
      have := ih (c := c) (S := fun i => S (i + 1)) (x := x) (by simpa using h)
      rw [List.take_succ_cons, List.take_succ_cons]
      unfold wsum
      rw [this]
      omega
/-- A graph checked one vertex behind the other, each with its parents ahead of it, or with its parents anywhere: the same. -/
theorem par_ahead {g : List VxD} (hs : sortedV g) {i : Nat} {v : VxD} (hv : g[i]? = some v) {a : Int} {j : Nat} : findV (g.take i) (v.r - 1) a = some j ↔ findV g (v.r - 1) a = some j := by
  rw [find_take hs]
  constructor
  · exact fun h => h.1
  · intro h
    refine ⟨h, ?_⟩
    obtain ⟨u, hu, e1, _⟩ := find_out h
    rcases Nat.lt_trichotomy j i with hlt | e | hlt
    · exact hlt
    · subst e
      rw [hu] at hv
      cases hv
      omega
    · exact absurd (hs i j v u hlt hv hu) (by unfold VxD.lt; omega)
end Go.Proofs.YtenflffikgfphaaDoor
