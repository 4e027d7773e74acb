/-
A vertex put into a graph, in plain Lean: the graph stays valid, the past of each vertex stays.
No conditions.
-/
import Derived.Test.YtalbgcpfekmfoaaPlB
namespace Go.Proofs.Ytalbgcpfekmfoaa
open Go Go.Vc
/-- The graph with v at place p. -/
def insV (g : List VxD) (p : Nat) (v : VxD) : List VxD := g.take p ++ v :: g.drop p
/-- Where v belongs. -/
structure Place (g : List VxD) (v : VxD) (p : Nat) : Prop where
  le : p ≤ g.length
  pre : ∀ (i : Nat) u, i < p → g[i]? = some u → u.lt v
  suf : ∀ u, g[p]? = some u → ¬ u.lt v
theorem ins_len {g : List VxD} {p : Nat} {v : VxD} (h : p ≤ g.length) : (insV g p v).length = g.length + 1 := by
  simp [insV]
  omega
theorem ins_get {g : List VxD} {p : Nat} {v : VxD} (h : p ≤ g.length) (i : Nat) : (insV g p v)[i]? = if i < p then g[i]? else if i = p then some v else g[i - 1]? := by
  have hl : (g.take p).length = p := by simp; omega
  unfold insV
  by_cases h1 : i < p
  · rw [if_pos h1, List.getElem?_append_left (by omega), List.getElem?_take, if_pos h1]
  · rw [if_neg h1, List.getElem?_append_right (by omega), hl]
    by_cases h2 : i = p
    · subst h2
      rw [if_pos rfl, Nat.sub_self]
      rfl
    · rw [if_neg h2]
      obtain ⟨j, rfl⟩ : ∃ j, i = p + j + 1 := ⟨i - p - 1, by omega⟩
      rw [show p + j + 1 - p = j + 1 from by omega, List.getElem?_cons_succ, List.getElem?_drop]
      rfl
theorem ins_mem {g : List VxD} {p : Nat} {v u : VxD} : u ∈ insV g p v ↔ u ∈ g ∨ u = v := by
  unfold insV
  constructor
  · intro h
    rcases List.mem_append.1 h with h | h
    · exact .inl (List.mem_of_mem_take h)
    · rcases List.mem_cons.1 h with h | h
      · exact .inr h
      · exact .inl (List.mem_of_mem_drop h)
  · rintro (h | rfl)
    · rw [← List.take_append_drop p g] at h
      rcases List.mem_append.1 h with h | h
      · exact List.mem_append_left _ h
      · exact List.mem_append_right _ (List.mem_cons_of_mem _ h)
    · simp
theorem not_place {g : List VxD} {v u : VxD} (hn : findV g v.r v.a = none) (hu : u ∈ g) : ¬ (u.r = v.r ∧ u.a = v.a) := find_none hn u hu
theorem ins_sorted {g : List VxD} {p : Nat} {v : VxD} (hs : sortedV g) (hp : Place g v p) (hn : findV g v.r v.a = none) : sortedV (insV g p v) := by
  have hpost : ∀ (j : Nat) u, p ≤ j → g[j]? = some u → v.lt u := by
    intro j u hj hu
    have h0 := not_place hn (List.mem_of_getElem? hu)
    have hlt : ¬ u.lt v := by
      rcases Nat.lt_or_ge p j with h1 | h1
      · have hpl : p < g.length := by
          have := (List.getElem?_eq_some_iff.1 hu).1
          omega
        have hw : g[p]? = some g[p] := List.getElem?_eq_getElem hpl
        intro hc
        exact hp.suf _ hw (VxD.lt_trans (hs p j _ u h1 hw hu) hc)
      · obtain rfl : j = p := by omega
        exact hp.suf u hu
    unfold VxD.lt at *
    omega
  intro i j a b hij ha hb
  rw [ins_get hp.le] at ha hb
  by_cases h1 : i < p
  · rw [if_pos h1] at ha
    by_cases h2 : j < p
    · rw [if_pos h2] at hb
      exact hs i j a b hij ha hb
    · rw [if_neg h2] at hb
      by_cases h3 : j = p
      · rw [if_pos h3] at hb
        cases hb
        exact hp.pre i a h1 ha
      · rw [if_neg h3] at hb
        exact hs i (j - 1) a b (by omega) ha hb
  · rw [if_neg h1] at ha
    by_cases h2 : i = p
    · rw [if_pos h2] at ha
      cases ha
      rw [if_neg (by omega), if_neg (by omega)] at hb
      exact hpost (j - 1) b (by omega) hb
    · rw [if_neg h2] at ha
      rw [if_neg (by omega), if_neg (by omega)] at hb
      exact hs (i - 1) (j - 1) a b (by omega) ha hb
/-- When a list of vertices is a valid graph. -/
theorem gV_in {c : List Int} {g : List VxD} (hc : comV c = true) (hs : sortedV g) (h : ∀ v ∈ g, vxV c v = true ∧ parB g v = true) : gV c g = true := by
  unfold gV
  rw [hc, Bool.true_and, List.all_eq_true]
  intro i hi
  have hil : i < g.length := by simpa using hi
  have hvi : g[i]? = some g[i] := List.getElem?_eq_getElem hil
  obtain ⟨q1, q2⟩ := h _ (List.getElem_mem hil)
  unfold gcell
  rw [hvi]
  dsimp only
  rw [q1, q2]
  have hp : g[i - 1]? = some (g[i - 1]'(by omega)) := List.getElem?_eq_getElem (by omega)
  rw [hp]
  dsimp only
  rcases Nat.eq_zero_or_pos i with e | e
  · subst e
    simp
  · have : ltB (g[i - 1]'(by omega)) g[i] = true := ltB_iff.2 (hs (i - 1) i _ _ (by omega) hp hvi)
    rw [this]
    simp
theorem gV_com2 {c : List Int} {g : List VxD} (h : gV c g = true) : comV c = true := by
  unfold gV at h
  rw [Bool.and_eq_true] at h
  exact h.1
theorem find_mem {g g' : List VxD} (hs : sortedV g') (hm : ∀ u ∈ g, u ∈ g') {r a : Int} (h : (findV g r a).isSome = true) : (findV g' r a).isSome = true := by
  obtain ⟨i, hi⟩ := Option.isSome_iff_exists.1 h
  obtain ⟨u, hu, rfl, rfl⟩ := find_out hi
  obtain ⟨j, hj⟩ := List.mem_iff_getElem?.1 (hm u (List.mem_of_getElem? hu))
  rw [find_at hs hj]
  rfl
theorem ins_gV {c : List Int} {g : List VxD} {p : Nat} {v : VxD} (hg : gV c g = true) (hv : vxV c v = true) (hpar : parB g v = true) (hp : Place g v p) (hn : findV g v.r v.a = none) : gV c (insV g p v) = true := by
  have hs := ins_sorted (gV_sorted hg) hp hn
  have hm : ∀ u ∈ g, u ∈ insV g p v := fun u hu => ins_mem.2 (.inl hu)
  have hpp : ∀ u, parB g u = true → parB (insV g p v) u = true := by
    intro u hu
    unfold parB at hu ⊢
    rw [List.all_eq_true] at hu ⊢
    exact fun x hx => find_mem hs hm (hu x hx)
  refine gV_in (gV_com2 hg) hs fun u hu => ?_
  rcases ins_mem.1 hu with h | rfl
  · obtain ⟨i, hi⟩ := List.mem_iff_getElem?.1 h
    obtain ⟨q1, q2, _⟩ := gV_cell hg hi
    exact ⟨q1, hpp u q2⟩
  · exact ⟨hv, hpp _ hpar⟩
theorem ins_sub {c : List Int} {g : List VxD} {p : Nat} {v : VxD} (hg : gV c g = true) : Sub g (insV g p v) :=
  ⟨fun _ hu => ins_mem.2 (.inl hu), gV_sorted hg, fun u hu x hx => ((gV_ok hg).par u hu).2.2 x hx⟩
/-- Two lists in order with the same vertices are one. -/
theorem lt_ext : ∀ {X Y : List VxD}, X.Pairwise VxD.lt → Y.Pairwise VxD.lt → (∀ v, v ∈ X ↔ v ∈ Y) → X = Y
  | [], [], _, _, _ => rfl
  | [], y :: Y, _, _, h => absurd ((h y).2 (by simp)) (by simp)
  | x :: X, [], _, _, h => absurd ((h x).1 (by simp)) (by simp)
  | x :: X, y :: Y, hx, hy, h => by
    obtain ⟨hx1, hx2⟩ := List.pairwise_cons.1 hx
    obtain ⟨hy1, hy2⟩ := List.pairwise_cons.1 hy
    have e : x = y := by
      rcases List.mem_cons.1 ((h x).1 (by simp)) with e | h1
      · exact e
      rcases List.mem_cons.1 ((h y).2 (by simp)) with e | h2
      · exact e.symm
      exact (VxD.lt_irrefl (VxD.lt_trans (hy1 x h1) (hx1 y h2))).elim
    subst e
    congr 1
    refine lt_ext hx2 hy2 fun v => ⟨fun hv => ?_, fun hv => ?_⟩
    · rcases List.mem_cons.1 ((h v).1 (List.mem_cons_of_mem _ hv)) with e | h1
      · subst e
        exact (VxD.lt_irrefl (hx1 v hv)).elim
      · exact h1
    · rcases List.mem_cons.1 ((h v).2 (List.mem_cons_of_mem _ hv)) with e | h1
      · subst e
        exact (VxD.lt_irrefl (hy1 v hv)).elim
      · exact h1
/-- What a vertex depends on, as vertices. -/
noncomputable def pastX (g : List VxD) (s : Nat) : List VxD := by
  classical
  exact ((List.range g.length).filter fun j => decide (Reach g s j)).map fun j => g.getD j ⟨0, 0, [], 0⟩
theorem pastX_mem {g : List VxD} {s : Nat} {v : VxD} : v ∈ pastX g s ↔ ∃ j : Nat, g[j]? = some v ∧ Reach g s j := by
  unfold pastX
  rw [List.mem_map]
  constructor
  · rintro ⟨j, hj, rfl⟩
    obtain ⟨h1, h2⟩ := List.mem_filter.1 hj
    have hjl : j < g.length := by simpa using h1
    exact ⟨j, by simp [List.getD, hjl], by simpa using h2⟩
  · rintro ⟨j, hv, hr⟩
    have hjl := (List.getElem?_eq_some_iff.1 hv).1
    exact ⟨j, List.mem_filter.2 ⟨by simpa using hjl, by simpa using hr⟩, by simp [List.getD, hv]⟩
theorem pastX_lt {g : List VxD} (hs : sortedV g) {s : Nat} : (pastX g s).Pairwise VxD.lt := by
  unfold pastX
  rw [List.pairwise_map]
  refine (List.Pairwise.filter _ List.pairwise_lt_range).imp_of_mem fun {a b} ha hb hab => ?_
  have h1 : a < g.length := by simpa using (List.mem_filter.1 ha).1
  have h2 : b < g.length := by simpa using (List.mem_filter.1 hb).1
  have e1 : g[a]? = some (g.getD a ⟨0, 0, [], 0⟩) := by simp [List.getD, h1]
  have e2 : g[b]? = some (g.getD b ⟨0, 0, [], 0⟩) := by simp [List.getD, h2]
  exact hs a b _ _ hab e1 e2
/-- A part that is closed under parents: what its vertices depend on is the same in the whole. -/
theorem pastX_sub {g' g : List VxD} (hg : sortedV g) (h : Sub g' g) {i' i : Nat} {v : VxD} (hv' : g'[i']? = some v) (hv : g[i]? = some v) : pastX g' i' = pastX g i := by
  refine lt_ext (pastX_lt h.srt) (pastX_lt hg) fun u => ?_
  rw [pastX_mem, pastX_mem]
  constructor
  · rintro ⟨j', hj', hr⟩
    obtain ⟨j, w, e1, e2, e3⟩ := sub_up hg h hr hv' hv
    rw [hj'] at e1
    cases e1
    exact ⟨j, e2, e3⟩
  · rintro ⟨j, hj, hr⟩
    obtain ⟨j', w, e1, e2, e3⟩ := sub_down hg h hr hv' hv
    rw [hj] at e2
    cases e2
    exact ⟨j', e1, e3⟩
/-- In the graph of one vertex. -/
theorem pastX_one {v : VxD} : pastX [v] 0 = [v] := by
  refine lt_ext (pastX_lt (g := [v]) fun i j a b hij ha hb => ?_) (by simp) fun u => ?_
  · have h1 := (List.getElem?_eq_some_iff.1 hb).1
    simp at h1
    omega
  · rw [pastX_mem]
    constructor
    · rintro ⟨j, hj, _⟩
      exact List.mem_of_getElem? hj
    · intro h
      rw [List.mem_singleton.1 h]
      exact ⟨0, rfl, .refl⟩
end Go.Proofs.Ytalbgcpfekmfoaa
