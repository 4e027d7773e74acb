/-
Graphs of vertices in plain Lean: places, parents, what a vertex depends on.
Weights in plain Lean: two sets that weigh more than all together have a member in common; a wave that is committed directly is in the past of all later vertices.
Committed waves in plain Lean: the chain of linked leaders, and why two readers agree.
Readers that know a part of a graph, in plain Lean: what they commit.
The laws on committed waves in plain Lean.
Votes in plain Lean: counted over the vertices of a round, or over the members; graphs checked vertex by vertex.
No conditions.
-/
import Derived.Test.YtalbgcpfekmfoaaVcMF
namespace Go.Proofs.Ytalbgcpfekmfoaa
open Go Go.Vc
structure VxD where
  r : Int
  a : Int
  p : List Int
  d : Int
  deriving DecidableEq
def VxD.row (v : VxD) : List AV := [I v.r, I v.a, .ints v.p, I v.d]
/-- Order by round and then by author. -/
def VxD.lt (v u : VxD) : Prop := v.r < u.r ∨ (v.r = u.r ∧ v.a < u.a)
theorem VxD.lt_trans {a b c : VxD} (h : a.lt b) (k : b.lt c) : a.lt c := by
  unfold VxD.lt at *
  omega
theorem VxD.lt_irrefl {a : VxD} (h : a.lt a) : False := by
  unfold VxD.lt at h
  omega
def sortedV (g : List VxD) : Prop := ∀ (i j : Nat) u v, i < j → g[i]? = some u → g[j]? = some v → u.lt v
/-- Each vertex is behind the one ahead of it. -/
def nextV (g : List VxD) : Prop := ∀ (i : Nat) u v, g[i]? = some u → g[i + 1]? = some v → u.lt v
theorem sorted_of_next {g : List VxD} (h : nextV g) : sortedV g := by
  intro i j u v hij hu hv
  obtain ⟨k, rfl⟩ : ∃ k, j = i + 1 + k := ⟨j - (i + 1), by omega⟩
  clear hij
  induction k generalizing v with
  | zero => exact h i u v hu hv
  | succ k ih =>
    have hlt : i + 1 + k < g.length := by
      have := (List.getElem?_eq_some_iff.1 hv).1
      omega
    have hw : g[i + 1 + k]? = some g[i + 1 + k] := List.getElem?_eq_getElem hlt
    exact VxD.lt_trans (ih _ hw) (h (i + 1 + k) _ v hw hv)
/-- The index of the first vertex of a place. -/
def findV : List VxD → Int → Int → Option Nat
  | [], _, _ => none
  | v :: g, r, a => if v.r = r ∧ v.a = a then some 0 else (findV g r a).map (· + 1)
theorem find_out : ∀ {g : List VxD} {r a : Int} {i : Nat}, findV g r a = some i → ∃ v, g[i]? = some v ∧ v.r = r ∧ v.a = a
  | [], _, _, _, h => by cases h
  | v :: g, r, a, i, h => by
    unfold findV at h
    split at h
    · rename_i e
      cases h
      exact ⟨v, rfl, e.1, e.2⟩
    · obtain ⟨j, hj, rfl⟩ := Option.map_eq_some_iff.1 h
      obtain ⟨u, hu, e1, e2⟩ := find_out hj
      exact ⟨u, by simpa using hu, e1, e2⟩
theorem find_first : ∀ {g : List VxD} {r a : Int} {i : Nat}, findV g r a = some i → ∀ j, j < i → ∀ v, g[j]? = some v → ¬ (v.r = r ∧ v.a = a)
  | [], _, _, _, h, _, _, _, _ => by cases h
  | v :: g, r, a, i, h, j, hj, u, hu => by
    unfold findV at h
    split at h
    · cases h; omega
    · rename_i e
      obtain ⟨k, hk, rfl⟩ := Option.map_eq_some_iff.1 h
      cases j with
      | zero => simp at hu; subst hu; exact e
      | succ j => exact find_first hk j (by omega) u (by simpa using hu)
theorem find_none : ∀ {g : List VxD} {r a : Int}, findV g r a = none → ∀ v ∈ g, ¬ (v.r = r ∧ v.a = a)
  | [], _, _, _, _, hv => by cases hv
  | v :: g, r, a, h, u, hu => by
    unfold findV at h
    split at h
    · cases h
    · rename_i e
      rcases List.mem_cons.1 hu with rfl | hu
      · exact e
      · exact find_none (Option.map_eq_none_iff.1 h) u hu
theorem find_at {g : List VxD} (hs : sortedV g) {i : Nat} {v : VxD} (hv : g[i]? = some v) : findV g v.r v.a = some i := by
  cases h : findV g v.r v.a with
  | none => exact absurd ⟨rfl, rfl⟩ (find_none h v (List.mem_of_getElem? hv))
  | some j =>
    obtain ⟨u, hu, e1, e2⟩ := find_out h
    have e : j = i := by
      rcases Nat.lt_trichotomy j i with hlt | e | hlt
      · exact absurd (hs j i u v hlt hu hv) (by unfold VxD.lt; omega)
      · exact e
      · exact absurd (hs i j v u hlt hv hu) (by unfold VxD.lt; omega)
    rw [e]
/-- In a sorted list a place is found in the part ahead of i just when it is found at all and lies ahead of i. -/
theorem find_take {g : List VxD} (hs : sortedV g) {n : Nat} {r a : Int} {i : Nat} : findV (g.take n) r a = some i ↔ findV g r a = some i ∧ i < n := by
  have hst : sortedV (g.take n) := by
    intro i j u v hij hu hv
    rw [List.getElem?_take] at hu hv
    split at hu
    · split at hv
      · exact hs i j u v hij hu hv
      · cases hv
    · cases hu
  constructor
  · intro h
    obtain ⟨v, hv, rfl, rfl⟩ := find_out h
    rw [List.getElem?_take] at hv
    split at hv
    · exact ⟨find_at hs hv, by assumption⟩
    · cases hv
  · rintro ⟨h, hi⟩
    obtain ⟨v, hv, rfl, rfl⟩ := find_out h
    exact find_at hst (by rw [List.getElem?_take, if_pos hi]; exact hv)
/-- The indexes of the parents of a vertex. -/
def parI (g : List VxD) (i : Nat) : List Nat := match g[i]? with
  | some v => v.p.filterMap fun a => findV g (v.r - 1) a
  | none => []
theorem par_lt {g : List VxD} (hs : sortedV g) {i j : Nat} (h : j ∈ parI g i) : j < i := by
  unfold parI at h
  split at h
  · rename_i v hv
    obtain ⟨a, _, ha⟩ := List.mem_filterMap.1 h
    obtain ⟨u, hu, e1, _⟩ := find_out ha
    rcases Nat.lt_trichotomy j i with hlt | e | hlt
    · exact hlt
    · subst e
      rw [hu] at hv
      cases hv
      omega
    · exact absurd (hs i j v u hlt hv hu) (by unfold VxD.lt; omega)
  · cases h
theorem par_mem {g : List VxD} {i j : Nat} {v : VxD} {a : Int} (hv : g[i]? = some v) (ha : a ∈ v.p) (hj : findV g (v.r - 1) a = some j) : j ∈ parI g i := by
  unfold parI
  rw [hv]
  exact List.mem_filterMap.2 ⟨a, ha, hj⟩
/-- What a vertex depends on, itself too. -/
inductive Reach (g : List VxD) (s : Nat) : Nat → Prop
  | refl : Reach g s s
  | step {i j : Nat} : Reach g s i → j ∈ parI g i → Reach g s j
theorem reach_le {g : List VxD} (hs : sortedV g) {s j : Nat} (h : Reach g s j) : j ≤ s := by
  induction h with
  | refl => exact Nat.le_refl _
  | step _ hj ih => exact Nat.le_trans (Nat.le_of_lt (par_lt hs hj)) ih
theorem reach_trans {g : List VxD} {s t j : Nat} (h : Reach g s t) (k : Reach g t j) : Reach g s j := by
  induction k with
  | refl => exact h
  | step _ hj ih => exact .step ih hj
/-- Marks that hold the start, hold only what it depends on, and are closed under parents, are just that. -/
theorem reach_closed {g : List VxD} {s : Nat} {m : Nat → Prop} (h0 : m s) (hc : ∀ i, m i → ∀ j ∈ parI g i, m j) {j : Nat} (h : Reach g s j) : m j := by
  induction h with
  | refl => exact h0
  | step _ hj ih => exact hc _ ih _ hj
/-- The marks of all that a vertex depends on. -/
noncomputable def pastV (g : List VxD) (s : Nat) : List Bool := by
  classical
  exact (List.range g.length).map fun j => decide (Reach g s j)
theorem past_eq {g : List VxD} {s : Nat} {b : List Bool} (hl : b.length = g.length) (h : ∀ (j : Nat) x, b[j]? = some x → (x = true ↔ Reach g s j)) : b = pastV g s := by
  unfold pastV
  apply List.ext_getElem?
  intro j
  by_cases hj : j < g.length
  · have hb : b[j]? = some (b[j]'(by omega)) := List.getElem?_eq_getElem (by omega)
    rw [hb, List.getElem?_map, List.getElem?_range hj]
    simp only [Option.map_some, Option.some.injEq]
    have := h j _ hb
    by_cases hr : Reach g s j
    · rw [this.2 hr]; simp [hr]
    · have hf : b[j]'(by omega) = false := by
        cases hx : b[j]'(by omega) with
        | false => rfl
        | true => exact absurd (this.1 hx) hr
      rw [hf]; simp [hr]
  · rw [List.getElem?_eq_none (by omega), List.getElem?_eq_none (by simp; omega)]
/-- The reader's walk: marks, and a stack of those whose parents are still to be looked at. -/
structure Dfs (g : List VxD) (s : Nat) (b : List Bool) (st : List Nat) : Prop where
  len : b.length = g.length
  start : b[s]? = some true
  only : ∀ j, b[j]? = some true → Reach g s j
  stack : ∀ j ∈ st, b[j]? = some true
  closed : ∀ i, b[i]? = some true → i ∉ st → ∀ j ∈ parI g i, b[j]? = some true
theorem dfs_done {g : List VxD} {s : Nat} {b : List Bool} (h : Dfs g s b []) : b = pastV g s := by
  refine past_eq h.len fun j x hx => ⟨fun e => h.only j (by rw [hx, e]), fun hr => ?_⟩
  have := reach_closed (m := fun j => b[j]? = some true) h.start (fun i hi j hj => h.closed i hi (by simp) j hj) hr
  rw [hx] at this
  exact Option.some.inj this
/-- The reference's walk: from a vertex down, the parents of what is marked are marked. -/
structure Dwn (g : List VxD) (s : Nat) (b : List Bool) (n : Nat) : Prop where
  len : b.length = g.length
  start : b[s]? = some true
  only : ∀ j, b[j]? = some true → Reach g s j
  closed : ∀ i, n ≤ i → b[i]? = some true → ∀ j ∈ parI g i, b[j]? = some true
theorem dwn_done {g : List VxD} {s : Nat} {b : List Bool} (h : Dwn g s b 0) : b = pastV g s :=
  dfs_done ⟨h.len, h.start, h.only, by simp, fun i hi _ => h.closed i (Nat.zero_le _) hi⟩
theorem set_true {b : List Bool} {k j : Nat} (h : b[j]? = some true) : (b.set k true)[j]? = some true := by
  rw [List.getElem?_set]
  split
  · rename_i e
    subst e
    have := (List.getElem?_eq_some_iff.1 h).1
    simp [this]
  · exact h
theorem set_out {b : List Bool} {k j : Nat} (h : (b.set k true)[j]? = some true) : b[j]? = some true ∨ j = k := by
  rw [List.getElem?_set] at h
  split at h
  · rename_i e
    exact .inr e.symm
  · exact .inl h
/-- The marks while the parents of vertex n are looked at: those of the first k of them are there. -/
theorem dwn_mark {g : List VxD} (hs : sortedV g) {s : Nat} {b : List Bool} {n : Nat} (h : Dwn g s b (n + 1)) (hn : b[n]? = some true) {k : Nat} (hk : k ∈ parI g n) : Dwn g s (b.set k true) (n + 1) := by
  have hkn := par_lt hs hk
  refine ⟨by rw [List.length_set]; exact h.len, set_true h.start, fun j hj => ?_, fun i hi hb j hj => ?_⟩
  · rcases set_out hj with hj | rfl
    · exact h.only j hj
    · exact .step (h.only n hn) hk
  · rcases set_out hb with hb | rfl
    · exact set_true (h.closed i hi hb j hj)
    · omega
theorem dwn_next {g : List VxD} {s : Nat} {b : List Bool} {n : Nat} (h : Dwn g s b (n + 1)) (hn : b[n]? = some true → ∀ j ∈ parI g n, b[j]? = some true) : Dwn g s b n := by
  refine ⟨h.len, h.start, h.only, fun i hi hb j hj => ?_⟩
  by_cases e : i = n
  · subst e
    exact hn hb j hj
  · exact h.closed i (by omega) hb j hj
theorem dfs_start {g : List VxD} {s : Nat} (hs : s < g.length) : Dfs g s ((List.replicate g.length false).set s true) [s] := by
  refine ⟨by simp, by simp [hs], fun j hj => ?_, fun j hj => ?_, fun i hi hn => ?_⟩
  · rcases set_out hj with hj | rfl
    · rw [List.getElem?_replicate] at hj
      split at hj <;> cases hj
    · exact .refl
  · simp at hj
    subst hj
    simp [hs]
  · rcases set_out hi with hi | rfl
    · rw [List.getElem?_replicate] at hi
      split at hi <;> cases hi
    · simp at hn
theorem dwn_start {g : List VxD} (hg : sortedV g) {s : Nat} (hs : s < g.length) : Dwn g s ((List.replicate g.length false).set s true) (s + 1) := by
  have h := dfs_start (g := g) hs
  refine ⟨h.len, h.start, h.only, fun i hi hb j hj => ?_⟩
  have := reach_le hg (h.only i hb)
  omega
end Go.Proofs.Ytalbgcpfekmfoaa
namespace Go.Proofs.Ytalbgcpfekmfoaa
open Go Go.Vc
/-- The weight of a set of members. -/
def wsum : List Int → (Nat → Bool) → Int
  | [], _ => 0
  | x :: c, S => (if S 0 = true then x else 0) + wsum c (fun i => S (i + 1))
theorem wsum_congr : ∀ {c : List Int} {S S' : Nat → Bool}, (∀ i, i < c.length → S i = S' i) → wsum c S = wsum c S'
  | [], _, _, _ => rfl
  | x :: c, S, S', h => by
    unfold wsum
    rw [h 0 (by simp), wsum_congr (c := c) (S' := fun i => S' (i + 1)) fun i hi => h (i + 1) (by simp; omega)]
theorem wsum_none : ∀ {c : List Int}, wsum c (fun _ => false) = 0
  | [] => rfl
  | x :: c => by
    unfold wsum
    rw [if_neg (by decide), wsum_none]
    rfl
theorem wsum_upd : ∀ {c : List Int} {S : Nat → Bool} {a : Nat} {x : Int}, c[a]? = some x → S a = false → wsum c (fun i => S i || i == a) = wsum c S + x
  | [], _, _, _, h, _ => by simp at h
  | y :: c, S, 0, x, h, hs => by
    simp at h
    subst h
    unfold wsum
    rw [hs, wsum_congr (c := c) (S := fun i => S (i + 1) || i + 1 == 0) (S' := fun i => S (i + 1)) fun i _ => by simp]
    simp
    omega
  | y :: c, S, a + 1, x, h, hs => by
    have := wsum_upd (c := c) (S := fun i => S (i + 1)) (a := a) (x := x) (by simpa using h) hs
    unfold wsum
    rw [wsum_congr (c := c) (S := fun i => S (i + 1) || i + 1 == a + 1) (S' := fun i => S (i + 1) || i == a) fun i _ => by simp, this]
    have e : (S 0 || (0 : Nat) == a + 1) = S 0 := by simp
    show (if (S 0 || (0 : Nat) == a + 1) = true then y else 0) + (wsum c (fun i => S (i + 1)) + x) = (if S 0 = true then y else 0) + wsum c (fun i => S (i + 1)) + x
    rw [e]
    omega
theorem wsum_disj : ∀ {c : List Int} {S S' : Nat → Bool}, (∀ x ∈ c, 0 ≤ x) → (∀ i, i < c.length → ¬ (S i = true ∧ S' i = true)) → wsum c S + wsum c S' ≤ c.sum
  | [], _, _, _, _ => by simp [wsum]
  | x :: c, S, S', h0, h => by
    have h1 := wsum_disj (c := c) (S := fun i => S (i + 1)) (S' := fun i => S' (i + 1)) (fun y hy => h0 y (by simp [hy])) fun i hi => h (i + 1) (by simp; omega)
    have h2 := h 0 (by simp)
    have h3 := h0 x (by simp)
    unfold wsum
    rw [List.sum_cons]
    cases e1 : S 0 <;> cases e2 : S' 0 <;> simp [e1, e2] at h2 ⊢ <;> omega
/-- A quorum and a support have a member in common. -/
theorem wsum_meet {c : List Int} {S S' : Nat → Bool} (h0 : ∀ x ∈ c, 0 ≤ x) (hS : 2 * c.sum / 3 + 1 ≤ wsum c S) (hS' : c.sum / 3 + 1 ≤ wsum c S') : ∃ i, i < c.length ∧ S i = true ∧ S' i = true := by
  apply Classical.byContradiction
  intro hn
  have := wsum_disj (c := c) (S := S) (S' := S') h0 fun i hi hh => hn ⟨i, hi, hh.1, hh.2⟩
  omega
theorem wsum_pos {c : List Int} {S : Nat → Bool} (h : 0 < wsum c S) : ∃ i, i < c.length ∧ S i = true := by
  apply Classical.byContradiction
  intro hn
  rw [wsum_congr (S' := fun _ => false) fun i hi => by
    cases e : S i with
    | false => rfl
    | true => exact absurd ⟨i, hi, e⟩ hn, wsum_none] at h
  omega
/-- The weight of a list of different members. -/
theorem wsum_list : ∀ {p : List Int} {c : List Int}, p.Nodup → (∀ x ∈ p, 0 ≤ x ∧ x < c.length) → (p.map fun x => c.getD x.toNat 0).sum = wsum c fun i => decide ((i : Int) ∈ p)
  | [], c, _, _ => by
    rw [wsum_congr (S' := fun _ => false) fun i _ => by simp, wsum_none]
    rfl
  | x :: p, c, hn, hx => by
    have h1 := wsum_list (p := p) (c := c) (List.nodup_cons.1 hn).2 fun y hy => hx y (by simp [hy])
    have h2 := hx x (by simp)
    have h3 : c[x.toNat]? = some (c.getD x.toNat 0) := by
      rw [List.getD_eq_getElem?_getD, List.getElem?_eq_getElem (by omega)]
      rfl
    have h4 := wsum_upd (c := c) (S := fun i => decide ((i : Int) ∈ p)) (a := x.toNat) h3 (by
      have : ((x.toNat : Nat) : Int) = x := by omega
      simp only [this]
      simpa using (List.nodup_cons.1 hn).1)
    rw [List.map_cons, List.sum_cons, h1, Int.add_comm, ← h4]
    refine wsum_congr fun i _ => ?_
    by_cases e : i = x.toNat
    · subst e
      have : ((x.toNat : Nat) : Int) = x := by omega
      simp [this]
    · have : ¬ ((i : Int) = x) := by omega
      simp [this, e]
/-- A graph that is valid, as far as the proofs ask. -/
structure Gok (c : List Int) (g : List VxD) : Prop where
  pos : ∀ x ∈ c, 0 ≤ x
  srt : sortedV g
  par : ∀ v ∈ g, v.p.Nodup ∧ (∀ x ∈ v.p, 0 ≤ x ∧ x < c.length) ∧ ∀ x ∈ v.p, ∃ j, findV g (v.r - 1) x = some j
  quo : ∀ v ∈ g, v.r ≠ 0 → 2 * c.sum / 3 + 1 ≤ (v.p.map fun x => c.getD x.toNat 0).sum
/-- The members whose vertex of a round refers to a member. -/
def votersV (g : List VxD) (r l : Int) (i : Nat) : Bool := match findV g r i with
  | some j => match g[j]? with
    | some v => decide (l ∈ v.p)
    | none => false
  | none => false
/-- What has enough support in round r is in the past of every later vertex. -/
theorem past_of_support {c : List Int} {g : List VxD} (hg : Gok c g) {r l : Int} (h0 : 0 ≤ r) (hs : c.sum / 3 + 1 ≤ wsum c (votersV g r l)) {k : Nat} (hk : findV g (r - 1) l = some k) :
    ∀ (n : Nat) (i : Nat) (v : VxD), g[i]? = some v → v.r = r + 1 + n → Reach g i k
  | 0, i, v, hv, hr => by
    have hm := List.mem_of_getElem? hv
    have hq := hg.quo v hm (by omega)
    obtain ⟨h1, h2, h3⟩ := hg.par v hm
    rw [wsum_list h1 h2] at hq
    obtain ⟨a, ha, e1, e2⟩ := wsum_meet hg.pos hq hs
    have e1 : (a : Int) ∈ v.p := of_decide_eq_true e1
    unfold votersV at e2
    cases hf : findV g r a with
    | none => rw [hf] at e2; cases e2
    | some j =>
      rw [hf] at e2
      simp only at e2
      cases hu : g[j]? with
      | none => rw [hu] at e2; cases e2
      | some u =>
        rw [hu] at e2
        have e2 : l ∈ u.p := of_decide_eq_true e2
        have e3 : v.r - 1 = r := by omega
        have s1 : Reach g i j := .step .refl (par_mem hv e1 (by rw [e3]; exact hf))
        obtain ⟨u', hu', e4, _⟩ := find_out hf
        rw [hu] at hu'
        cases hu'
        exact .step s1 (par_mem hu e2 (by rw [e4]; exact hk))
  | n + 1, i, v, hv, hr => by
    have hm := List.mem_of_getElem? hv
    have hq := hg.quo v hm (by omega)
    obtain ⟨h1, h2, h3⟩ := hg.par v hm
    have hc0 : 0 ≤ c.sum := by
      have := wsum_disj (c := c) (S := fun _ => false) (S' := fun _ => false) hg.pos (by simp)
      rw [wsum_none] at this
      omega
    rw [wsum_list h1 h2] at hq
    obtain ⟨a, ha, e1⟩ := wsum_pos (c := c) (S := fun i => decide ((i : Int) ∈ v.p)) (by omega)
    have e1 : (a : Int) ∈ v.p := of_decide_eq_true e1
    obtain ⟨j, hj⟩ := h3 _ e1
    obtain ⟨u, hu, e2, _⟩ := find_out hj
    have s1 : Reach g i j := .step .refl (par_mem hv e1 hj)
    exact reach_trans s1 (past_of_support hg h0 hs hk n j u hu (by omega))
end Go.Proofs.Ytalbgcpfekmfoaa
namespace Go.Proofs.Ytalbgcpfekmfoaa
open Go Go.Vc
/-- The waves ahead of 'cur' that are linked, one from the other, down to 'last', ascending. has: the wave has a leader; R x y: the leader of x depends on that of y. -/
def dnW (has : Nat → Bool) (R : Nat → Nat → Bool) : Nat → Nat → Nat → List Nat
  | _, 0, _ => []
  | cur, x + 1, last => if x + 1 ≤ last then [] else if (has (x + 1) && R cur (x + 1)) = true then dnW has R (x + 1) x last ++ [x + 1] else dnW has R cur x last
def chW (has : Nat → Bool) (R : Nat → Nat → Bool) (w last : Nat) : List Nat := dnW has R w (w - 1) last ++ [w]
/-- What is committed up to wave n, and the last wave that is committed directly. -/
def cmW (has : Nat → Bool) (R : Nat → Nat → Bool) (dir : Nat → Bool) : Nat → List Nat × Nat
  | 0 => ([], 0)
  | n + 1 => if dir (n + 1) = true then ((cmW has R dir n).1 ++ chW has R (n + 1) (cmW has R dir n).2, n + 1) else cmW has R dir n
variable {has : Nat → Bool} {R : Nat → Nat → Bool} {dir : Nat → Bool}
theorem dn_mem : ∀ {x cur last y : Nat}, y ∈ dnW has R cur x last → last < y ∧ y ≤ x ∧ has y = true
  | 0, _, _, _, h => by simp [dnW] at h
  | x + 1, cur, last, y, h => by
    unfold dnW at h
    split at h
    · simp at h
    · rename_i hl
      split at h
      · rename_i hr
        rcases List.mem_append.1 h with h | h
        · have := dn_mem h
          exact ⟨this.1, by omega, this.2.2⟩
        · simp at h
          subst h
          rw [Bool.and_eq_true] at hr
          exact ⟨by omega, Nat.le_refl _, hr.1⟩
      · have := dn_mem h
        exact ⟨this.1, by omega, this.2.2⟩
theorem dn_asc : ∀ {x cur last : Nat}, (dnW has R cur x last).Pairwise (· < ·)
  | 0, _, _ => by simp [dnW]
  | x + 1, cur, last => by
    unfold dnW
    split
    · simp
    · split
      · refine List.pairwise_append.2 ⟨dn_asc, by simp, fun a ha b hb => ?_⟩
        have := dn_mem ha
        simp at hb
        omega
      · exact dn_asc
/-- A chain passes through every wave that all later leaders depend on. -/
theorem dn_split {w last : Nat} (hw : has w = true) (hk : ∀ z, w < z → has z = true → R z w = true) (h0 : last < w) : ∀ {x cur : Nat}, w ≤ x → R cur w = true → dnW has R cur x last = chW has R w last ++ dnW has R cur x w
  | 0, _, h, _ => by omega
  | x + 1, cur, h, hc => by
    by_cases e : w = x + 1
    · subst e
      have e1 : dnW has R cur (x + 1) (x + 1) = [] := by
        unfold dnW
        rw [if_pos (Nat.le_refl _)]
      rw [e1, List.append_nil]
      show (if x + 1 ≤ last then [] else if (has (x + 1) && R cur (x + 1)) = true then dnW has R (x + 1) x last ++ [x + 1] else dnW has R cur x last) = _
      rw [if_neg (by omega), if_pos (by rw [hw, hc]; rfl)]
      rfl
    · have hx : w ≤ x := by omega
      show (if x + 1 ≤ last then [] else if (has (x + 1) && R cur (x + 1)) = true then dnW has R (x + 1) x last ++ [x + 1] else dnW has R cur x last) = chW has R w last ++ (if x + 1 ≤ w then [] else if (has (x + 1) && R cur (x + 1)) = true then dnW has R (x + 1) x w ++ [x + 1] else dnW has R cur x w)
      rw [if_neg (show ¬ (x + 1 ≤ last) by omega), if_neg (show ¬ (x + 1 ≤ w) by omega)]
      split
      · rename_i hr
        rw [Bool.and_eq_true] at hr
        rw [dn_split hw hk h0 hx (hk (x + 1) (by omega) hr.1), List.append_assoc]
      · exact dn_split hw hk h0 hx hc
theorem cm_last : ∀ {n : Nat}, (cmW has R dir n).2 ≤ n ∧ (0 < (cmW has R dir n).2 → dir (cmW has R dir n).2 = true)
  | 0 => ⟨Nat.le_refl _, fun h => by simp [cmW] at h⟩
  | n + 1 => by
    unfold cmW
    split
    · rename_i hd
      exact ⟨Nat.le_refl _, fun _ => hd⟩
    · have := cm_last (n := n)
      exact ⟨by omega, this.2⟩
theorem cm_no : ∀ {n : Nat}, (cmW has R dir n).2 = 0 → (cmW has R dir n).1 = []
  | 0, _ => rfl
  | n + 1, h => by
    unfold cmW at h ⊢
    split at h
    · simp at h
    · rename_i hd
      rw [if_neg hd]
      exact cm_no h
/-- All that is committed is one chain. -/
theorem cm_full (hd : ∀ w, dir w = true → has w = true) (hk : ∀ w z, dir w = true → w < z → has z = true → R z w = true) : ∀ {n : Nat}, 0 < (cmW has R dir n).2 → (cmW has R dir n).1 = chW has R (cmW has R dir n).2 0
  | 0, h => by simp [cmW] at h
  | n + 1, h => by
    have hl := cm_last (has := has) (R := R) (dir := dir) (n := n)
    unfold cmW at h ⊢
    split at h
    · rename_i hn
      rw [if_pos hn]
      simp only
      by_cases h0 : (cmW has R dir n).2 = 0
      · rw [cm_no h0, h0]
        rfl
      · have h1 := hl.2 (by omega)
        have e := dn_split (has := has) (R := R) (w := (cmW has R dir n).2) (last := 0) (hd _ h1) (fun z hz hh => hk _ z h1 hz hh) (by omega) (x := n) (cur := n + 1) hl.1 (hk _ _ h1 (by omega) (hd _ hn))
        rw [cm_full hd hk (by omega)]
        show chW has R (cmW has R dir n).2 0 ++ (dnW has R (n + 1) n (cmW has R dir n).2 ++ [n + 1]) = dnW has R (n + 1) n 0 ++ [n + 1]
        rw [e, List.append_assoc]
    · rename_i hn
      rw [if_neg hn]
      exact cm_full hd hk h
/-- Every wave that is committed directly is committed. -/
theorem cm_dir : ∀ {n w : Nat}, 0 < w → w ≤ n → dir w = true → w ∈ (cmW has R dir n).1
  | 0, _, h0, h1, _ => by omega
  | n + 1, w, h0, h1, hw => by
    unfold cmW
    by_cases e : w = n + 1
    · subst e
      rw [if_pos hw]
      exact List.mem_append_right _ (by simp [chW])
    · have := cm_dir h0 (show w ≤ n by omega) hw
      split
      · exact List.mem_append_left _ this
      · exact this
theorem cm_mem (hd : ∀ w, dir w = true → has w = true) : ∀ {n y : Nat}, y ∈ (cmW has R dir n).1 → 0 < y ∧ y ≤ (cmW has R dir n).2 ∧ has y = true
  | 0, _, h => by simp [cmW] at h
  | n + 1, y, h => by
    have hl := cm_last (has := has) (R := R) (dir := dir) (n := n)
    unfold cmW at h ⊢
    split at h
    · rename_i hn
      rw [if_pos hn]
      rcases List.mem_append.1 h with h | h
      · have := cm_mem hd h
        exact ⟨this.1, by simp only; omega, this.2.2⟩
      · rcases List.mem_append.1 h with h | h
        · have := dn_mem h
          exact ⟨by omega, by simp only; omega, this.2.2⟩
        · simp at h
          subst h
          exact ⟨by omega, Nat.le_refl _, hd _ hn⟩
    · rename_i hn
      rw [if_neg hn]
      exact cm_mem hd h
theorem cm_asc (hd : ∀ w, dir w = true → has w = true) : ∀ {n : Nat}, (cmW has R dir n).1.Pairwise (· < ·)
  | 0 => by simp [cmW]
  | n + 1 => by
    have hl := cm_last (has := has) (R := R) (dir := dir) (n := n)
    unfold cmW
    split
    · refine List.pairwise_append.2 ⟨cm_asc hd, List.pairwise_append.2 ⟨dn_asc, by simp, fun a ha b hb => ?_⟩, fun a ha b hb => ?_⟩
      · have := dn_mem ha
        simp at hb
        omega
      · have h1 := cm_mem hd ha
        rcases List.mem_append.1 hb with hb | hb
        · have := dn_mem hb
          omega
        · simp at hb
          omega
    · exact cm_asc hd
theorem cm_getLast : ∀ {n : Nat}, 0 < (cmW has R dir n).2 → (cmW has R dir n).1.getLast? = some (cmW has R dir n).2
  | 0, h => by simp [cmW] at h
  | n + 1, h => by
    unfold cmW at h ⊢
    split at h
    · rename_i hn
      rw [if_pos hn]
      simp [chW]
    · rename_i hn
      rw [if_neg hn]
      exact cm_getLast h
/-- Leaders of later waves do not matter. -/
theorem dn_congr {has' : Nat → Bool} {R' : Nat → Nat → Bool} : ∀ {x cur last : Nat}, (∀ y, y ≤ x → has' y = has y) → (∀ z y, (z = cur ∨ (z ≤ x ∧ has z = true)) → y ≤ x → has y = true → R' z y = R z y) → dnW has' R' cur x last = dnW has R cur x last
  | 0, _, _, _, _ => rfl
  | x + 1, cur, last, h1, h2 => by
    unfold dnW
    rw [h1 (x + 1) (Nat.le_refl _)]
    by_cases hl : x + 1 ≤ last
    · rw [if_pos hl, if_pos hl]
    · rw [if_neg hl, if_neg hl]
      cases hh : has (x + 1) with
      | false =>
        simp only [Bool.false_and, if_neg (show ¬ (false = true) by decide)]
        exact dn_congr (fun y hy => h1 y (by omega)) fun z y hz hy => h2 z y (by rcases hz with hz | hz; exact .inl hz; exact .inr ⟨by omega, hz.2⟩) (by omega)
      | true =>
        rw [h2 cur (x + 1) (.inl rfl) (Nat.le_refl _) hh, dn_congr (cur := x + 1) (fun y hy => h1 y (by omega)) (fun z y hz hy => h2 z y (by rcases hz with hz | hz; exact .inr ⟨by omega, by rw [hz]; exact hh⟩; exact .inr ⟨by omega, hz.2⟩) (by omega)),
          dn_congr (cur := cur) (fun y hy => h1 y (by omega)) (fun z y hz hy => h2 z y (by rcases hz with hz | hz; exact .inl hz; exact .inr ⟨by omega, hz.2⟩) (by omega))]
theorem cm_prefix : ∀ {k n : Nat}, n ≤ k → (cmW has R dir n).1 <+: (cmW has R dir k).1
  | 0, n, h => by
    obtain rfl : n = 0 := by omega
    exact List.prefix_refl _
  | k + 1, n, h => by
    by_cases e : n = k + 1
    · subst e; exact List.prefix_refl _
    · have := cm_prefix (k := k) (n := n) (by omega)
      conv => rhs; unfold cmW
      split
      · exact this.trans (List.prefix_append _ _)
      · exact this
/-- A chain is a prefix of the chain of a later wave whose leader depends on all waves that are committed directly. -/
theorem ch_prefix {a b : Nat} (ha : has a = true) (hk : ∀ z, a < z → has z = true → R z a = true) (h0 : 0 < a) (hab : a ≤ b) (hb : has b = true) : chW has R a 0 <+: chW has R b 0 := by
  by_cases e : a = b
  · subst e; exact List.prefix_refl _
  · refine ⟨dnW has R b (b - 1) a ++ [b], ?_⟩
    conv => rhs; unfold chW
    rw [dn_split ha hk h0 (by omega) (hk b (by omega) hb), List.append_assoc]
/-- Two readers of parts of one graph: what the one has committed begins what the other has. -/
theorem cm_agree {hasA hasB : Nat → Bool} {RA RB : Nat → Nat → Bool} {dirA dirB : Nat → Bool} {n : Nat} (hd : ∀ w, dir w = true → has w = true) (hk : ∀ w z, dir w = true → w < z → has z = true → R z w = true)
    (dA : ∀ w, dirA w = true → hasA w = true) (dB : ∀ w, dirB w = true → hasB w = true) (eA : ∀ w, dirA w = true → dir w = true) (eB : ∀ w, dirB w = true → dir w = true)
    (cA : ∀ w, hasA w = true → chW hasA RA w 0 = chW has R w 0) (cB : ∀ w, hasB w = true → chW hasB RB w 0 = chW has R w 0)
    (kA : ∀ w z, dirA w = true → w < z → hasA z = true → RA z w = true) (kB : ∀ w z, dirB w = true → w < z → hasB z = true → RB z w = true) :
    (cmW hasA RA dirA n).1 <+: (cmW hasB RB dirB n).1 ∨ (cmW hasB RB dirB n).1 <+: (cmW hasA RA dirA n).1 := by
  have lA := cm_last (has := hasA) (R := RA) (dir := dirA) (n := n)
  have lB := cm_last (has := hasB) (R := RB) (dir := dirB) (n := n)
  by_cases a0 : (cmW hasA RA dirA n).2 = 0
  · rw [cm_no a0]; exact .inl (List.nil_prefix)
  · by_cases b0 : (cmW hasB RB dirB n).2 = 0
    · rw [cm_no b0]; exact .inr (List.nil_prefix)
    · have a1 := lA.2 (by omega)
      have b1 := lB.2 (by omega)
      rw [cm_full dA kA (by omega), cm_full dB kB (by omega), cA _ (dA _ a1), cB _ (dB _ b1)]
      rcases Nat.le_total (cmW hasA RA dirA n).2 (cmW hasB RB dirB n).2 with h | h
      · exact .inl (ch_prefix (hd _ (eA _ a1)) (fun z hz hh => hk _ z (eA _ a1) hz hh) (by omega) h (hd _ (eB _ b1)))
      · exact .inr (ch_prefix (hd _ (eB _ b1)) (fun z hz hh => hk _ z (eB _ b1) hz hh) (by omega) h (hd _ (eA _ a1)))
end Go.Proofs.Ytalbgcpfekmfoaa
namespace Go.Proofs.Ytalbgcpfekmfoaa
open Go Go.Vc
/-- A part of a graph that holds the parents of what it holds. -/
structure Sub (g' g : List VxD) : Prop where
  mem : ∀ v ∈ g', v ∈ g
  srt : sortedV g'
  clo : ∀ v ∈ g', ∀ x ∈ v.p, ∃ j, findV g' (v.r - 1) x = some j
theorem sub_self {c : List Int} {g : List VxD} (h : Gok c g) : Sub g g := ⟨fun _ h => h, h.srt, fun v hv => (h.par v hv).2.2⟩
theorem sub_find {g' g : List VxD} (hg : sortedV g) (h : Sub g' g) {r a : Int} {i : Nat} (hi : findV g' r a = some i) : ∃ j v, findV g r a = some j ∧ g'[i]? = some v ∧ g[j]? = some v := by
  obtain ⟨v, hv, rfl, rfl⟩ := find_out hi
  obtain ⟨j, hj⟩ := List.mem_iff_getElem?.1 (h.mem v (List.mem_of_getElem? hv))
  exact ⟨j, v, find_at hg hj, hv, hj⟩
theorem sub_up {g' g : List VxD} (hg : sortedV g) (h : Sub g' g) {i' j' i : Nat} {v : VxD} (hr : Reach g' i' j') (hv' : g'[i']? = some v) (hv : g[i]? = some v) : ∃ j u, g'[j']? = some u ∧ g[j]? = some u ∧ Reach g i j := by
  induction hr with
  | refl => exact ⟨i, v, hv', hv, .refl⟩
  | step _ hj ih =>
    obtain ⟨m, w, h1, h2, h3⟩ := ih
    unfold parI at hj
    rw [h1] at hj
    obtain ⟨a, ha, hf⟩ := List.mem_filterMap.1 hj
    obtain ⟨j, u, e1, e2, e3⟩ := sub_find hg h hf
    exact ⟨j, u, e2, e3, .step h3 (par_mem h2 ha e1)⟩
theorem sub_down {g' g : List VxD} (hg : sortedV g) (h : Sub g' g) {i' i j : Nat} {v : VxD} (hr : Reach g i j) (hv' : g'[i']? = some v) (hv : g[i]? = some v) : ∃ j' u, g'[j']? = some u ∧ g[j]? = some u ∧ Reach g' i' j' := by
  induction hr with
  | refl => exact ⟨i', v, hv', hv, .refl⟩
  | step _ hj ih =>
    obtain ⟨m', w, h1, h2, h3⟩ := ih
    unfold parI at hj
    rw [h2] at hj
    obtain ⟨a, ha, hf⟩ := List.mem_filterMap.1 hj
    obtain ⟨j', hf'⟩ := h.clo w (List.mem_of_getElem? h1) a ha
    obtain ⟨j, u, e1, e2, e3⟩ := sub_find hg h hf'
    rw [hf] at e1
    cases e1
    exact ⟨j', u, e2, e3, .step h3 (par_mem h1 ha hf')⟩
theorem wsum_mono : ∀ {c : List Int} {S S' : Nat → Bool}, (∀ x ∈ c, 0 ≤ x) → (∀ i, S i = true → S' i = true) → wsum c S ≤ wsum c S'
  | [], _, _, _, _ => Int.le_refl _
  | x :: c, S, S', h0, h => by
    have h1 := wsum_mono (c := c) (S := fun i => S (i + 1)) (S' := fun i => S' (i + 1)) (fun y hy => h0 y (by simp [hy])) fun i => h (i + 1)
    have h2 := h 0
    have h3 := h0 x (by simp)
    unfold wsum
    cases e1 : S 0 <;> cases e2 : S' 0 <;> simp [e1, e2] at h2 ⊢ <;> omega
/-- The index of the leader's vertex of a wave. -/
def leadV (g : List VxD) (L : List Int) (w : Nat) : Option Nat := if w = 0 then none else match L[w - 1]? with
  | some l => findV g (2 * w - 1) l
  | none => none
def hasV (g : List VxD) (L : List Int) (w : Nat) : Bool := (leadV g L w).isSome
noncomputable def linkV (g : List VxD) (L : List Int) (z w : Nat) : Bool := by
  classical
  exact match leadV g L z, leadV g L w with
  | some i, some j => decide (Reach g i j)
  | _, _ => false
def dirV (c : List Int) (g : List VxD) (L : List Int) (w : Nat) : Bool := hasV g L w && decide (c.sum / 3 + 1 ≤ wsum c (votersV g (2 * w) (L.getD (w - 1) 0)))
theorem lead_out {g : List VxD} {L : List Int} {w i : Nat} (h : leadV g L w = some i) : 0 < w ∧ L[w - 1]? = some (L.getD (w - 1) 0) ∧ findV g (2 * w - 1) (L.getD (w - 1) 0) = some i := by
  unfold leadV at h
  split at h
  · cases h
  · rename_i h0
    split at h
    · rename_i l hl
      have e : L.getD (w - 1) 0 = l := by rw [List.getD_eq_getElem?_getD, hl]; rfl
      rw [e]
      exact ⟨by omega, hl, h⟩
    · cases h
theorem lead_in {g : List VxD} {L : List Int} {w i : Nat} {l : Int} (h0 : 0 < w) (hl : L[w - 1]? = some l) (h : findV g (2 * w - 1) l = some i) : leadV g L w = some i := by
  unfold leadV
  rw [if_neg (by omega), hl]
  exact h
theorem has_lead {g : List VxD} {L : List Int} {w : Nat} (h : hasV g L w = true) : ∃ i, leadV g L w = some i := Option.isSome_iff_exists.1 h
theorem link_out {g : List VxD} {L : List Int} {z w : Nat} (h : linkV g L z w = true) : ∃ i j, leadV g L z = some i ∧ leadV g L w = some j ∧ Reach g i j := by
  unfold linkV at h
  split at h
  · rename_i i j e1 e2
    exact ⟨i, j, e1, e2, by simpa using h⟩
  · cases h
theorem link_in {g : List VxD} {L : List Int} {z w i j : Nat} (h1 : leadV g L z = some i) (h2 : leadV g L w = some j) (h : Reach g i j) : linkV g L z w = true := by
  unfold linkV
  rw [h1, h2]
  simpa using h
theorem dir_has {c : List Int} {g : List VxD} {L : List Int} (w : Nat) (h : dirV c g L w = true) : hasV g L w = true := by
  unfold dirV at h
  rw [Bool.and_eq_true] at h
  exact h.1
/-- What is committed directly is in the past of all later leaders. -/
theorem dir_link {c : List Int} {g : List VxD} {L : List Int} (hg : Gok c g) (w z : Nat) (hd : dirV c g L w = true) (hz : w < z) (hh : hasV g L z = true) : linkV g L z w = true := by
  unfold dirV at hd
  rw [Bool.and_eq_true] at hd
  obtain ⟨k, hk⟩ := has_lead hd.1
  obtain ⟨i, hi⟩ := has_lead hh
  obtain ⟨w0, _, hf⟩ := lead_out hk
  obtain ⟨z0, _, hf2⟩ := lead_out hi
  obtain ⟨v, hv, e1, _⟩ := find_out hf2
  exact link_in hi hk (past_of_support hg (r := 2 * w) (by omega) (of_decide_eq_true hd.2) hf (2 * z - 2 * w - 2) i v hv (by omega))
theorem sub_lead {g' g : List VxD} {L : List Int} (hg : sortedV g) (h : Sub g' g) {w i : Nat} (hi : leadV g' L w = some i) : ∃ j v, leadV g L w = some j ∧ g'[i]? = some v ∧ g[j]? = some v := by
  obtain ⟨h0, hl, hf⟩ := lead_out hi
  obtain ⟨j, v, e1, e2, e3⟩ := sub_find hg h hf
  exact ⟨j, v, lead_in h0 hl e1, e2, e3⟩
theorem sub_has {g' g : List VxD} {L : List Int} (hg : sortedV g) (h : Sub g' g) {w : Nat} (hh : hasV g' L w = true) : hasV g L w = true := by
  obtain ⟨i, hi⟩ := has_lead hh
  obtain ⟨j, _, e, _⟩ := sub_lead hg h hi
  rw [hasV, e]
  rfl
theorem sub_voters {g' g : List VxD} (hg : sortedV g) (h : Sub g' g) {r l : Int} (i : Nat) (hv : votersV g' r l i = true) : votersV g r l i = true := by
  unfold votersV at hv ⊢
  cases hf : findV g' r i with
  | none => rw [hf] at hv; cases hv
  | some j =>
    rw [hf] at hv
    obtain ⟨k, v, e1, e2, e3⟩ := sub_find hg h hf
    simp only [e2] at hv
    rw [e1]
    simp only [e3]
    exact hv
theorem sub_dir {c : List Int} {g' g : List VxD} {L : List Int} (hg : Gok c g) (h : Sub g' g) (w : Nat) (hd : dirV c g' L w = true) : dirV c g L w = true := by
  unfold dirV at hd ⊢
  rw [Bool.and_eq_true] at hd ⊢
  have := wsum_mono hg.pos (sub_voters (r := 2 * w) (l := L.getD (w - 1) 0) hg.srt h)
  have h2 := of_decide_eq_true hd.2
  exact ⟨sub_has hg.srt h hd.1, decide_eq_true (by omega)⟩
theorem sub_link {g' g : List VxD} {L : List Int} (hg : sortedV g) (h : Sub g' g) {z w : Nat} (hz : hasV g' L z = true) : linkV g' L z w = true ↔ linkV g L z w = true := by
  obtain ⟨i', hi'⟩ := has_lead hz
  obtain ⟨i, v, e1, e2, e3⟩ := sub_lead hg h hi'
  constructor
  · intro hl
    obtain ⟨a, b, h1, h2, h3⟩ := link_out hl
    rw [hi'] at h1
    cases h1
    obtain ⟨j, u, q1, q2, q3⟩ := sub_up hg h h3 e2 e3
    obtain ⟨k, u2, p1, p2, p3⟩ := sub_lead hg h h2
    rw [q1] at p2
    cases p2
    obtain ⟨_, _, f1⟩ := lead_out p1
    obtain ⟨u3, f2, f3, f4⟩ := find_out f1
    rw [p3] at f2
    cases f2
    have ej : j = k := by
      have a1 := find_at hg q2
      have a2 := find_at hg p3
      rw [a1] at a2
      exact Option.some.inj a2
    subst ej
    exact link_in e1 p1 q3
  · intro hl
    obtain ⟨a, b, h1, h2, h3⟩ := link_out hl
    rw [e1] at h1
    cases h1
    obtain ⟨j', u, q1, q2, q3⟩ := sub_down hg h h3 e2 e3
    obtain ⟨w0, hl2, hf⟩ := lead_out h2
    obtain ⟨u2, f1, f2, f3⟩ := find_out hf
    rw [q2] at f1
    cases f1
    have := find_at h.srt q1
    rw [f2, f3] at this
    exact link_in hi' (lead_in w0 hl2 this) q3
theorem link_has {g : List VxD} {L : List Int} {z w : Nat} (h : linkV g L z w = true) : hasV g L w = true := by
  obtain ⟨_, j, _, e, _⟩ := link_out h
  rw [hasV, e]
  rfl
theorem dn_congr2 {has has' : Nat → Bool} {R R' : Nat → Nat → Bool} {p : Nat → Prop} (h1 : ∀ z y, p z → (has' y && R' z y) = (has y && R z y)) (h2 : ∀ z y, p z → (has y && R z y) = true → p y) : ∀ {x cur last : Nat}, p cur → dnW has' R' cur x last = dnW has R cur x last
  | 0, _, _, _ => rfl
  | x + 1, cur, last, hp => by
    unfold dnW
    rw [h1 cur (x + 1) hp]
    split
    · rfl
    · split
      · rename_i hr
        rw [dn_congr2 h1 h2 (h2 cur _ hp hr)]
      · exact dn_congr2 h1 h2 hp
theorem sub_ch {g' g : List VxD} {L : List Int} (hg : sortedV g) (h : Sub g' g) (w : Nat) (hw : hasV g' L w = true) : chW (hasV g' L) (linkV g' L) w 0 = chW (hasV g L) (linkV g L) w 0 := by
  unfold chW
  rw [dn_congr2 (p := fun z => hasV g' L z = true) (has := hasV g L) (R := linkV g L) (fun z y hz => ?_) (fun z y hz hy => ?_) hw]
  · have e := sub_link (L := L) hg h (w := y) hz
    cases hl : linkV g' L z y with
    | true =>
      rw [e.1 hl, link_has hl, link_has (e.1 hl)]
    | false =>
      cases hl2 : linkV g L z y with
      | true => rw [e.2 hl2] at hl; cases hl
      | false => simp
  · rw [Bool.and_eq_true] at hy
    exact link_has ((sub_link (L := L) hg h hz).2 hy.2)
noncomputable def outV (c : List Int) (g : List VxD) (L : List Int) : List Nat := (cmW (hasV g L) (linkV g L) (dirV c g L) L.length).1
/-- Two readers of parts of one graph agree. -/
theorem out_agree {c : List Int} {g a b : List VxD} {L : List Int} (hg : Gok c g) (ha : Sub a g) (hb : Sub b g) : outV c a L <+: outV c b L ∨ outV c b L <+: outV c a L := by
  have kk : ∀ {g'}, Sub g' g → ∀ w z, dirV c g' L w = true → w < z → hasV g' L z = true → linkV g' L z w = true := fun {g'} h w z hd hz hh =>
    (sub_link hg.srt h hh).2 (dir_link hg w z (sub_dir hg h w hd) hz (sub_has hg.srt h hh))
  exact cm_agree (has := hasV g L) (R := linkV g L) (dir := dirV c g L) dir_has (dir_link hg) dir_has dir_has (sub_dir hg ha) (sub_dir hg hb) (sub_ch hg.srt ha) (sub_ch hg.srt hb) (kk ha) (kk hb)
end Go.Proofs.Ytalbgcpfekmfoaa
namespace Go.Proofs.Ytalbgcpfekmfoaa
open Go Go.Vc
variable {has : Nat → Bool} {R : Nat → Nat → Bool} {dir : Nat → Bool}
theorem cm_max : ∀ {n w : Nat}, 0 < w → w ≤ n → dir w = true → w ≤ (cmW has R dir n).2
  | 0, _, h0, h1, _ => by omega
  | n + 1, w, h0, h1, hw => by
    unfold cmW
    by_cases e : w = n + 1
    · subst e
      rw [if_pos hw]
      exact Nat.le_refl _
    · have := cm_max h0 (show w ≤ n by omega) hw
      split
      · exact h1
      · exact this
/-- What a reader of a part has committed begins what is committed. -/
theorem out_grow {c : List Int} {g a : List VxD} {L : List Int} (hg : Gok c g) (ha : Sub a g) : outV c a L <+: outV c g L := by
  have kk : ∀ w z, dirV c a L w = true → w < z → hasV a L z = true → linkV a L z w = true := fun w z hd hz hh =>
    (sub_link hg.srt ha hh).2 (dir_link hg w z (sub_dir hg ha w hd) hz (sub_has hg.srt ha hh))
  have lA := cm_last (has := hasV a L) (R := linkV a L) (dir := dirV c a L) (n := L.length)
  have lG := cm_last (has := hasV g L) (R := linkV g L) (dir := dirV c g L) (n := L.length)
  unfold outV
  by_cases a0 : (cmW (hasV a L) (linkV a L) (dirV c a L) L.length).2 = 0
  · rw [cm_no a0]; exact List.nil_prefix
  · have a1 := lA.2 (by omega)
    have g1 := sub_dir hg ha _ a1
    have hm := cm_max (has := hasV g L) (R := linkV g L) (dir := dirV c g L) (show 0 < (cmW (hasV a L) (linkV a L) (dirV c a L) L.length).2 by omega) lA.1 g1
    rw [cm_full dir_has kk (by omega), cm_full dir_has (dir_link hg) (by omega), sub_ch hg.srt ha _ (dir_has _ a1)]
    exact ch_prefix (dir_has _ g1) (fun z hz hh => dir_link hg _ z g1 hz hh) (by omega) hm (dir_has _ (lG.2 (by omega)))
theorem cm_congr {has' : Nat → Bool} {R' : Nat → Nat → Bool} {dir' : Nat → Bool} : ∀ {n : Nat}, (∀ w, w ≤ n → has' w = has w) → (∀ z w, z ≤ n → w ≤ n → R' z w = R z w) → (∀ w, w ≤ n → dir' w = dir w) → cmW has' R' dir' n = cmW has R dir n
  | 0, _, _, _ => rfl
  | n + 1, h1, h2, h3 => by
    have ih := cm_congr (n := n) (fun w hw => h1 w (by omega)) (fun z w hz hw => h2 z w (by omega) (by omega)) (fun w hw => h3 w (show w ≤ n + 1 by omega))
    have e : chW has' R' (n + 1) (cmW has R dir n).2 = chW has R (n + 1) (cmW has R dir n).2 := by
      unfold chW
      rw [dn_congr (fun y hy => h1 y (by omega)) fun z y hz hy _ => h2 z y (by omega) (by omega)]
    unfold cmW
    rw [h3 (n + 1) (Nat.le_refl _), ih, e]
theorem lead_take {g : List VxD} {L : List Int} {k w : Nat} (h : w ≤ k) : leadV g (L.take k) w = leadV g L w := by
  unfold leadV
  split
  · rfl
  · rw [List.getElem?_take, if_pos (by omega)]
theorem link_take {g : List VxD} {L : List Int} {k z w : Nat} (hz : z ≤ k) (hw : w ≤ k) : linkV g (L.take k) z w = linkV g L z w := by
  unfold linkV
  rw [lead_take hz, lead_take hw]
theorem has_take {g : List VxD} {L : List Int} {k w : Nat} (h : w ≤ k) : hasV g (L.take k) w = hasV g L w := by
  unfold hasV
  rw [lead_take h]
theorem dir_take {c : List Int} {g : List VxD} {L : List Int} {k w : Nat} (h : w ≤ k) : dirV c g (L.take k) w = dirV c g L w := by
  unfold dirV
  rw [has_take h]
  cases hh : hasV g L w with
  | false => rfl
  | true =>
    obtain ⟨i, hi⟩ := has_lead hh
    have h0 := (lead_out hi).1
    rw [List.getD_eq_getElem?_getD, List.getD_eq_getElem?_getD, List.getElem?_take, if_pos (by omega)]
/-- Later leaders do not matter. -/
theorem out_leaders {c : List Int} {g : List VxD} {L : List Int} {k : Nat} (hk : k ≤ L.length) : outV c g (L.take k) <+: outV c g L := by
  unfold outV
  rw [List.length_take, Nat.min_eq_left hk, cm_congr (has := hasV g L) (R := linkV g L) (dir := dirV c g L) (fun w hw => has_take hw) (fun z w hz hw => link_take hz hw) fun w hw => dir_take hw]
  exact cm_prefix hk
/-- Neighbours in a chain are linked. -/
def lnkd (R : Nat → Nat → Bool) (l : List Nat) : Prop := ∀ (i : Nat) a b, l[i]? = some a → l[i + 1]? = some b → R b a = true
theorem lnkd_app {l : List Nat} {b : Nat} (h : lnkd R l) (hb : ∀ a, l.getLast? = some a → R b a = true) : lnkd R (l ++ [b]) := by
  intro i x y hx hy
  by_cases hi : i + 1 < l.length
  · rw [List.getElem?_append_left (by omega)] at hx hy
    exact h i x y hx hy
  · have hy2 := (List.getElem?_eq_some_iff.1 hy).1
    simp at hy2
    have e : i + 1 = l.length := by omega
    rw [List.getElem?_append_right (by omega), e, Nat.sub_self] at hy
    simp at hy
    subst hy
    rw [List.getElem?_append_left (by omega)] at hx
    refine hb x ?_
    rw [List.getLast?_eq_getElem?, ← hx]
    congr 1
    omega
theorem dn_lnkd : ∀ {x cur last : Nat}, lnkd R (dnW has R cur x last) ∧ ∀ a, (dnW has R cur x last).getLast? = some a → R cur a = true
  | 0, _, _ => by
    refine ⟨fun i a b h _ => by simp [dnW] at h, fun a h => by simp [dnW] at h⟩
  | x + 1, cur, last => by
    unfold dnW
    split
    · refine ⟨fun i a b h _ => by simp at h, fun a h => by simp at h⟩
    · split
      · rename_i hr
        rw [Bool.and_eq_true] at hr
        have ih := dn_lnkd (x := x) (cur := x + 1) (last := last)
        refine ⟨lnkd_app ih.1 ih.2, fun a h => ?_⟩
        simp at h
        subst h
        exact hr.2
      · exact dn_lnkd
theorem ch_lnkd {w last : Nat} : lnkd R (chW has R w last) := lnkd_app dn_lnkd.1 dn_lnkd.2
/-- Committed leaders are linked, each to the one ahead of it. -/
theorem out_linked {c : List Int} {g : List VxD} {L : List Int} (hg : Gok c g) : lnkd (linkV g L) (outV c g L) := by
  unfold outV
  by_cases h0 : (cmW (hasV g L) (linkV g L) (dirV c g L) L.length).2 = 0
  · rw [cm_no h0]
    intro i a b h
    simp at h
  · rw [cm_full dir_has (dir_link hg) (by omega)]
    exact ch_lnkd
/-- What is committed directly is in the past of all vertices of later rounds. -/
theorem dir_reach {c : List Int} {g : List VxD} {L : List Int} (hg : Gok c g) {w i k : Nat} {v : VxD} (hd : dirV c g L w = true) (hk : leadV g L w = some k) (hv : g[i]? = some v) (hr : (2 * w : Int) < v.r) : Reach g i k := by
  unfold dirV at hd
  rw [Bool.and_eq_true] at hd
  obtain ⟨w0, _, hf⟩ := lead_out hk
  exact past_of_support hg (r := 2 * w) (by omega) (of_decide_eq_true hd.2) hf (v.r - 2 * w - 1).toNat i v hv (by omega)
theorem out_asc {c : List Int} {g : List VxD} {L : List Int} : (outV c g L).Pairwise (· < ·) := cm_asc dir_has
theorem out_mem {c : List Int} {g : List VxD} {L : List Int} {w : Nat} (h : w ∈ outV c g L) : 0 < w ∧ w ≤ L.length ∧ hasV g L w = true := by
  have h1 := cm_mem dir_has h
  have h2 := (cm_last (has := hasV g L) (R := linkV g L) (dir := dirV c g L) (n := L.length)).1
  exact ⟨h1.1, by omega, h1.2.2⟩
theorem out_last {c : List Int} {g : List VxD} {L : List Int} {w : Nat} (h : (outV c g L).getLast? = some w) : dirV c g L w = true := by
  have hl := cm_last (has := hasV g L) (R := linkV g L) (dir := dirV c g L) (n := L.length)
  by_cases h0 : (cmW (hasV g L) (linkV g L) (dirV c g L) L.length).2 = 0
  · unfold outV at h
    rw [cm_no h0] at h
    cases h
  · have h1 := cm_getLast (has := hasV g L) (R := linkV g L) (dir := dirV c g L) (n := L.length) (by omega)
    unfold outV at h
    rw [h1] at h
    cases h
    exact hl.2 (by omega)
theorem out_dir {c : List Int} {g : List VxD} {L : List Int} {w : Nat} (h0 : 0 < w) (h1 : w ≤ L.length) (h : dirV c g L w = true) : w ∈ outV c g L := cm_dir h0 h1 h
end Go.Proofs.Ytalbgcpfekmfoaa
namespace Go.Proofs.Ytalbgcpfekmfoaa
open Go Go.Vc
theorem pair_of_sorted {g : List VxD} (h : sortedV g) : g.Pairwise VxD.lt :=
  List.pairwise_iff_getElem.2 fun i j hi hj hij => h i j _ _ hij (List.getElem?_eq_getElem hi) (List.getElem?_eq_getElem hj)
/-- The votes of the vertices of a round that refer to a member. -/
def votS (c : List Int) (r l : Int) : List VxD → Int
  | [] => 0
  | v :: g => (if v.r = r ∧ l ∈ v.p then c.getD v.a.toNat 0 else 0) + votS c r l g
theorem votS_app {c : List Int} {r l : Int} : ∀ {g g' : List VxD}, votS c r l (g ++ g') = votS c r l g + votS c r l g'
  | [], g' => by simp [votS]
  | v :: g, g' => by
    show (if v.r = r ∧ l ∈ v.p then c.getD v.a.toNat 0 else 0) + votS c r l (g ++ g') = (if v.r = r ∧ l ∈ v.p then c.getD v.a.toNat 0 else 0) + votS c r l g + votS c r l g'
    rw [votS_app]
    omega
theorem votS_take {c : List Int} {r l : Int} {g : List VxD} {i : Nat} {v : VxD} (hv : g[i]? = some v) : votS c r l (g.take (i + 1)) = votS c r l (g.take i) + if v.r = r ∧ l ∈ v.p then c.getD v.a.toNat 0 else 0 := by
  rw [List.take_add_one, hv, votS_app]
  show _ + votS c r l [v] = _
  simp [votS]
def votA (r l : Int) (g : List VxD) : List Int := (g.filter fun v => decide (v.r = r ∧ l ∈ v.p)).map VxD.a
theorem votS_list {c : List Int} {r l : Int} : ∀ {g : List VxD}, votS c r l g = ((votA r l g).map fun x => c.getD x.toNat 0).sum
  | [] => rfl
  | v :: g => by
    have ih := votS_list (c := c) (r := r) (l := l) (g := g)
    show (if v.r = r ∧ l ∈ v.p then c.getD v.a.toNat 0 else 0) + votS c r l g = _
    rw [ih]
    unfold votA
    rw [List.filter_cons]
    by_cases h : v.r = r ∧ l ∈ v.p
    · rw [if_pos h, if_pos (by simpa using h), List.map_cons, List.map_cons, List.sum_cons]
    · rw [if_neg h, if_neg (by simpa using h)]
      omega
theorem votA_nodup {r l : Int} {g : List VxD} (hs : sortedV g) : (votA r l g).Nodup := by
  unfold votA
  have h1 := (pair_of_sorted hs).filter fun v => decide (v.r = r ∧ l ∈ v.p)
  refine List.pairwise_map.2 (List.pairwise_iff_forall_sublist.2 ?_)
  intro a b hab
  have hlt := List.pairwise_iff_forall_sublist.1 h1 hab
  have ha := List.mem_filter.1 (hab.subset (show a ∈ [a, b] by simp))
  have hb := List.mem_filter.1 (hab.subset (show b ∈ [a, b] by simp))
  have ha2 := (of_decide_eq_true ha.2).1
  have hb2 := (of_decide_eq_true hb.2).1
  unfold VxD.lt at hlt
  omega
theorem votA_mem {r l : Int} {g : List VxD} (hs : sortedV g) (i : Nat) : decide ((i : Int) ∈ votA r l g) = votersV g r l i := by
  have hiff : (i : Int) ∈ votA r l g ↔ votersV g r l i = true := by
    unfold votA
    rw [List.mem_map]
    constructor
    · rintro ⟨v, hv, hi⟩
      obtain ⟨hm, hp⟩ := List.mem_filter.1 hv
      obtain ⟨hr, hl⟩ := of_decide_eq_true hp
      obtain ⟨j, hj⟩ := List.mem_iff_getElem?.1 hm
      have := find_at hs hj
      rw [hr, hi] at this
      unfold votersV
      rw [this]
      simp only [hj]
      exact decide_eq_true hl
    · intro h
      unfold votersV at h
      cases hf : findV g r i with
      | none => rw [hf] at h; cases h
      | some j =>
        rw [hf] at h
        obtain ⟨v, hv, e1, e2⟩ := find_out hf
        simp only [hv] at h
        exact ⟨v, List.mem_filter.2 ⟨List.mem_of_getElem? hv, decide_eq_true ⟨e1, of_decide_eq_true h⟩⟩, e2⟩
  cases hb : votersV g r l i with
  | true => exact decide_eq_true (hiff.2 hb)
  | false => exact decide_eq_false fun h => by rw [hiff.1 h] at hb; cases hb
/-- Both ways of counting. -/
theorem votS_eq {c : List Int} {r l : Int} {g : List VxD} (hs : sortedV g) (ha : ∀ v ∈ g, 0 ≤ v.a ∧ v.a < c.length) : votS c r l g = wsum c (votersV g r l) := by
  rw [votS_list, wsum_list (votA_nodup hs) fun x hx => ?_]
  · exact wsum_congr fun i _ => votA_mem hs i
  · obtain ⟨v, hv, rfl⟩ := List.mem_map.1 hx
    exact ha v (List.mem_filter.1 hv).1
/-- The weight of the first n members of a set. -/
theorem wsum_take {c : List Int} {S : Nat → Bool} : ∀ {n : Nat} {x : Int}, c[n]? = some x → wsum (c.take (n + 1)) S = wsum (c.take n) S + if S n = true then x else 0 := by
  intro n
  induction n generalizing c S with
  | zero =>
    intro x h
    cases c with
    | nil => simp at h
    | cons y c => simp at h; subst h; simp [wsum]
  | succ n ih =>
    intro x h
    cases c with
    | nil => simp at h
    | cons y c =>
      have := ih (c := c) (S := fun i => S (i + 1)) (x := x) (by simpa using h)
      rw [List.take_succ_cons, List.take_succ_cons]
      unfold wsum
      rw [this]
      omega
/-- A graph checked one vertex behind the other, each with its parents ahead of it, or with its parents anywhere: the same. -/
theorem par_ahead {g : List VxD} (hs : sortedV g) {i : Nat} {v : VxD} (hv : g[i]? = some v) {a : Int} {j : Nat} : findV (g.take i) (v.r - 1) a = some j ↔ findV g (v.r - 1) a = some j := by
  rw [find_take hs]
  constructor
  · exact fun h => h.1
  · intro h
    refine ⟨h, ?_⟩
    obtain ⟨u, hu, e1, _⟩ := find_out h
    rcases Nat.lt_trichotomy j i with hlt | e | hlt
    · exact hlt
    · subst e
      rw [hu] at hv
      cases hv
      omega
    · exact absurd (hs i j v u hlt hv hu) (by unfold VxD.lt; omega)
end Go.Proofs.Ytalbgcpfekmfoaa
