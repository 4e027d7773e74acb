/-
Graphs of vertices in plain Lean: places, parents, what a vertex depends on.
No conditions.
-/
import Derived.Test.YtenflffikgfphaaDoorVcMF
namespace Go.Proofs.YtenflffikgfphaaDoor
open Go Go.Vc
structure VxD where
  r : Int
  a : Int
  p : List Int
  d : Int
  deriving DecidableEq
def VxD.row (v : VxD) : List AV := [I v.r, I v.a, .ints v.p, I v.d]
/-- Order by round and then by author. -/
def VxD.lt (v u : VxD) : Prop := v.r < u.r ∨ (v.r = u.r ∧ v.a < u.a)
theorem VxD.lt_trans {a b c : VxD} (h : a.lt b) (k : b.lt c) : a.lt c := by
  unfold VxD.lt at *
  omega
theorem VxD.lt_irrefl {a : VxD} (h : a.lt a) : False := by
  unfold VxD.lt at h
  omega
def sortedV (g : List VxD) : Prop := ∀ (i j : Nat) u v, i < j → g[i]? = some u → g[j]? = some v → u.lt v
/-- Each vertex is behind the one ahead of it. -/
def nextV (g : List VxD) : Prop := ∀ (i : Nat) u v, g[i]? = some u → g[i + 1]? = some v → u.lt v
theorem sorted_of_next {g : List VxD} (h : nextV g) : sortedV g := by
  intro i j u v hij hu hv
  obtain ⟨k, rfl⟩ : ∃ k, j = i + 1 + k := ⟨j - (i + 1), by omega⟩
  clear hij
  induction k generalizing v with
  | zero => exact h i u v hu hv
  | succ k ih =>
    have hlt : i + 1 + k < g.length := by
      have := (List.getElem?_eq_some_iff.1 hv).1
      omega
    have hw : g[i + 1 + k]? = some g[i + 1 + k] := List.getElem?_eq_getElem hlt
    exact VxD.lt_trans (ih _ hw) (h (i + 1 + k) _ v hw hv)
/-- The index of the first vertex of a place. -/
def findV : List VxD → Int → Int → Option Nat
  | [], _, _ => none
  | v :: g, r, a => if v.r = r ∧ v.a = a then some 0 else (findV g r a).map (· + 1)
theorem find_out : ∀ {g : List VxD} {r a : Int} {i : Nat}, findV g r a = some i → ∃ v, g[i]? = some v ∧ v.r = r ∧ v.a = a
  | [], _, _, _, h => by cases h
  | v :: g, r, a, i, h => by
    unfold findV at h
    split at h
    · rename_i e
      cases h
      exact ⟨v, rfl, e.1, e.2⟩
    · obtain ⟨j, hj, rfl⟩ := Option.map_eq_some_iff.1 h
      obtain ⟨u, hu, e1, e2⟩ := find_out hj
      exact ⟨u, by simpa using hu, e1, e2⟩
theorem find_first : ∀ {g : List VxD} {r a : Int} {i : Nat}, findV g r a = some i → ∀ j, j < i → ∀ v, g[j]? = some v → ¬ (v.r = r ∧ v.a = a)
  | [], _, _, _, h, _, _, _, _ => by cases h
  | v :: g, r, a, i, h, j, hj, u, hu => by
    unfold findV at h
    split at h
    · cases h; omega
    · rename_i e
      obtain ⟨k, hk, rfl⟩ := Option.map_eq_some_iff.1 h
      cases j with
      | zero => simp at hu; subst hu; exact e
      | succ j => exact find_first hk j (by omega) u (by simpa using hu)
theorem find_none : ∀ {g : List VxD} {r a : Int}, findV g r a = none → ∀ v ∈ g, ¬ (v.r = r ∧ v.a = a)
  | [], _, _, _, _, hv => by cases hv
  | v :: g, r, a, h, u, hu => by
    unfold findV at h
    split at h
    · cases h
    · rename_i e
      rcases List.mem_cons.1 hu with rfl | hu
      · exact e
      · exact find_none (Option.map_eq_none_iff.1 h) u hu
theorem find_at {g : List VxD} (hs : sortedV g) {i : Nat} {v : VxD} (hv : g[i]? = some v) : findV g v.r v.a = some i := by
  cases h : findV g v.r v.a with
  | none => exact absurd ⟨rfl, rfl⟩ (find_none h v (List.mem_of_getElem? hv))
  | some j =>
    obtain ⟨u, hu, e1, e2⟩ := find_out h
    have e : j = i := by
      rcases Nat.lt_trichotomy j i with hlt | e | hlt
      · exact absurd (hs j i u v hlt hu hv) (by unfold VxD.lt; omega)
      · exact e
      · exact absurd (hs i j v u hlt hv hu) (by unfold VxD.lt; omega)
    rw [e]
/-- In a sorted list a place is found in the part ahead of i just when it is found at all and lies ahead of i. -/
theorem find_take {g : List VxD} (hs : sortedV g) {n : Nat} {r a : Int} {i : Nat} : findV (g.take n) r a = some i ↔ findV g r a = some i ∧ i < n := by
  have hst : sortedV (g.take n) := by
    intro i j u v hij hu hv
    rw [List.getElem?_take] at hu hv
    split at hu
    · split at hv
      · exact hs i j u v hij hu hv
      · cases hv
    · cases hu
  constructor
  · intro h
    obtain ⟨v, hv, rfl, rfl⟩ := find_out h
    rw [List.getElem?_take] at hv
    split at hv
    · exact ⟨find_at hs hv, by assumption⟩
    · cases hv
  · rintro ⟨h, hi⟩
    obtain ⟨v, hv, rfl, rfl⟩ := find_out h
    exact find_at hst (by rw [List.getElem?_take, if_pos hi]; exact hv)
/-- The indexes of the parents of a vertex. -/
def parI (g : List VxD) (i : Nat) : List Nat := match g[i]? with
  | some v => v.p.filterMap fun a => findV g (v.r - 1) a
  | none => []
theorem par_lt {g : List VxD} (hs : sortedV g) {i j : Nat} (h : j ∈ parI g i) : j < i := by
  unfold parI at h
  split at h
  · rename_i v hv
    obtain ⟨a, _, ha⟩ := List.mem_filterMap.1 h
    obtain ⟨u, hu, e1, _⟩ := find_out ha
    rcases Nat.lt_trichotomy j i with hlt | e | hlt
    · exact hlt
    · subst e
      rw [hu] at hv
      cases hv
      omega
    · exact absurd (hs i j v u hlt hv hu) (by unfold VxD.lt; omega)
  · cases h
theorem par_mem {g : List VxD} {i j : Nat} {v : VxD} {a : Int} (hv : g[i]? = some v) (ha : a ∈ v.p) (hj : findV g (v.r - 1) a = some j) : j ∈ parI g i := by
  unfold parI
  rw [hv]
  exact List.mem_filterMap.2 ⟨a, ha, hj⟩
/-- What a vertex depends on, itself too. -/
inductive Reach (g : List VxD) (s : Nat) : Nat → Prop
  | refl : Reach g s s
  | step {i j : Nat} : Reach g s i → j ∈ parI g i → Reach g s j
theorem reach_le {g : List VxD} (hs : sortedV g) {s j : Nat} (h : Reach g s j) : j ≤ s := by
  induction h with
  | refl => exact Nat.le_refl _
  | step _ hj ih => exact Nat.le_trans (Nat.le_of_lt (par_lt hs hj)) ih
theorem reach_trans {g : List VxD} {s t j : Nat} (h : Reach g s t) (k : Reach g t j) : Reach g s j := by
  induction k with
  | refl => exact h
  | step _ hj ih => exact .step ih hj
/-- Marks that hold the start, hold only what it depends on, and are closed under parents, are just that. -/
theorem reach_closed {g : List VxD} {s : Nat} {m : Nat → Prop} (h0 : m s) (hc : ∀ i, m i → ∀ j ∈ parI g i, m j) {j : Nat} (h : Reach g s j) : m j := by
  induction h with
  | refl => exact h0
  | step _ hj ih => exact hc _ ih _ hj
/-- The marks of all that a vertex depends on. -/
noncomputable def pastV (g : List VxD) (s : Nat) : List Bool := by
  classical
  exact (List.range g.length).map fun j => decide (Reach g s j)
theorem past_eq {g : List VxD} {s : Nat} {b : List Bool} (hl : b.length = g.length) (h : ∀ (j : Nat) x, b[j]? = some x → (x = true ↔ Reach g s j)) : b = pastV g s := by
  unfold pastV
  apply List.ext_getElem?
  intro j
  by_cases hj : j < g.length
  · have hb : b[j]? = some (b[j]'(by omega)) := List.getElem?_eq_getElem (by omega)
    rw [hb, List.getElem?_map, List.getElem?_range hj]
    simp only [Option.map_some, Option.some.injEq]
    have := h j _ hb
    by_cases hr : Reach g s j
    · rw [this.2 hr]; simp [hr]
    · have hf : b[j]'(by omega) = false := by
        cases hx : b[j]'(by omega) with
        | false => rfl
        | true => exact absurd (this.1 hx) hr
      rw [hf]; simp [hr]
  · rw [List.getElem?_eq_none (by omega), List.getElem?_eq_none (by simp; omega)]
/-- The reader's walk: marks, and a stack of those whose parents are still to be looked at. -/
structure Dfs (g : List VxD) (s : Nat) (b : List Bool) (st : List Nat) : Prop where
  len : b.length = g.length
  start : b[s]? = some true
  only : ∀ j, b[j]? = some true → Reach g s j
  stack : ∀ j ∈ st, b[j]? = some true
  closed : ∀ i, b[i]? = some true → i ∉ st → ∀ j ∈ parI g i, b[j]? = some true
theorem dfs_done {g : List VxD} {s : Nat} {b : List Bool} (h : Dfs g s b []) : b = pastV g s := by
  refine past_eq h.len fun j x hx => ⟨fun e => h.only j (by rw [hx, e]), fun hr => ?_⟩
  have := reach_closed (m := fun j => b[j]? = some true) h.start (fun i hi j hj => h.closed i hi (by simp) j hj) hr
  rw [hx] at this
  exact Option.some.inj this
/-- The reference's walk: from a vertex down, the parents of what is marked are marked. -/
structure Dwn (g : List VxD) (s : Nat) (b : List Bool) (n : Nat) : Prop where
  len : b.length = g.length
  start : b[s]? = some true
  only : ∀ j, b[j]? = some true → Reach g s j
  closed : ∀ i, n ≤ i → b[i]? = some true → ∀ j ∈ parI g i, b[j]? = some true
theorem dwn_done {g : List VxD} {s : Nat} {b : List Bool} (h : Dwn g s b 0) : b = pastV g s :=
  dfs_done ⟨h.len, h.start, h.only, by simp, fun i hi _ => h.closed i (Nat.zero_le _) hi⟩
theorem set_true {b : List Bool} {k j : Nat} (h : b[j]? = some true) : (b.set k true)[j]? = some true := by
  rw [List.getElem?_set]
  split
  · rename_i e
    subst e
    have := (List.getElem?_eq_some_iff.1 h).1
    simp [this]
  · exact h
theorem set_out {b : List Bool} {k j : Nat} (h : (b.set k true)[j]? = some true) : b[j]? = some true ∨ j = k := by
  rw [List.getElem?_set] at h
  split at h
  · rename_i e
    exact .inr e.symm
  · exact .inl h
/-- The marks while the parents of vertex n are looked at: those of the first k of them are there. -/
theorem dwn_mark {g : List VxD} (hs : sortedV g) {s : Nat} {b : List Bool} {n : Nat} (h : Dwn g s b (n + 1)) (hn : b[n]? = some true) {k : Nat} (hk : k ∈ parI g n) : Dwn g s (b.set k true) (n + 1) := by
  have hkn := par_lt hs hk
  refine ⟨by rw [List.length_set]; exact h.len, set_true h.start, fun j hj => ?_, fun i hi hb j hj => ?_⟩
  · rcases set_out hj with hj | rfl
    · exact h.only j hj
    · exact .step (h.only n hn) hk
  · rcases set_out hb with hb | rfl
    · exact set_true (h.closed i hi hb j hj)
    · omega
theorem dwn_next {g : List VxD} {s : Nat} {b : List Bool} {n : Nat} (h : Dwn g s b (n + 1)) (hn : b[n]? = some true → ∀ j ∈ parI g n, b[j]? = some true) : Dwn g s b n := by
  refine ⟨h.len, h.start, h.only, fun i hi hb j hj => ?_⟩
  by_cases e : i = n
  · subst e
    exact hn hb j hj
  · exact h.closed i (by omega) hb j hj
theorem dfs_start {g : List VxD} {s : Nat} (hs : s < g.length) : Dfs g s ((List.replicate g.length false).set s true) [s] := by
  refine ⟨by simp, by simp [hs], fun j hj => ?_, fun j hj => ?_, fun i hi hn => ?_⟩
  · rcases set_out hj with hj | rfl
    · rw [List.getElem?_replicate] at hj
      split at hj <;> cases hj
    · exact .refl
  · simp at hj
    subst hj
    simp [hs]
  · rcases set_out hi with hi | rfl
    · rw [List.getElem?_replicate] at hi
      split at hi <;> cases hi
    · simp at hn
theorem dwn_start {g : List VxD} (hg : sortedV g) {s : Nat} (hs : s < g.length) : Dwn g s ((List.replicate g.length false).set s true) (s + 1) := by
  have h := dfs_start (g := g) hs
  refine ⟨h.len, h.start, h.only, fun i hi hb j hj => ?_⟩
  have := reach_le hg (h.only i hb)
  omega
end Go.Proofs.YtenflffikgfphaaDoor
