/-
When a graph is valid, in plain Lean, and what that gives.
No conditions.
-/
import Derived.Test.YtalbgcpfekmfoaaCkA
import Derived.Test.YtalbgcpfekmfoaaPlA
namespace Go.Proofs.Ytalbgcpfekmfoaa
open Go Go.Vc
theorem inR_out {a b c : Int} (h : inR a b c = true) : b ≤ a ∧ a ≤ c := by
  simpa [inR] using h
theorem inR_no {a b c : Int} (h : inR a b c = false) : ¬ (b ≤ a ∧ a ≤ c) := by
  intro ⟨h1, h2⟩
  simp [inR, h1, h2] at h
def vxV (c : List Int) (v : VxD) : Bool := inR v.r 0 30 && (inR v.a 0 ((c.length : Int) - 1) && (memV c v.p && (inR v.d 0 990 && (if v.r = 0 then decide (v.p.length = 0) else decide (quo c ≤ wgt c v.p)))))
def ltB (u v : VxD) : Bool := decide (u.r < v.r) || (decide (u.r = v.r) && decide (u.a < v.a))
theorem ltB_iff {u v : VxD} : ltB u v = true ↔ u.lt v := by
  unfold ltB VxD.lt
  simp [Bool.or_eq_true, Bool.and_eq_true]
def parB (g : List VxD) (v : VxD) : Bool := v.p.all fun x => (findV g (v.r - 1) x).isSome
def gcell (c : List Int) (g : List VxD) (i : Nat) : Bool := match g[i]? with
  | some v => vxV c v && ((match g[i - 1]? with
    | some u => decide (i = 0) || ltB u v
    | none => false) && parB g v)
  | none => false
def gV (c : List Int) (g : List VxD) : Bool := comV c && (List.range g.length).all (gcell c g)
theorem gV_cell {c : List Int} {g : List VxD} (h : gV c g = true) {i : Nat} {v : VxD} (hv : g[i]? = some v) : vxV c v = true ∧ parB g v = true ∧ ∀ u, 0 < i → g[i - 1]? = some u → u.lt v := by
  unfold gV at h
  rw [Bool.and_eq_true, List.all_eq_true] at h
  have hi := (List.getElem?_eq_some_iff.1 hv).1
  have h1 := h.2 i (by simpa using hi)
  unfold gcell at h1
  rw [hv] at h1
  simp only [Bool.and_eq_true] at h1
  refine ⟨h1.1, h1.2.2, fun u h0 hu => ?_⟩
  have h2 := h1.2.1
  rw [hu] at h2
  have h2 : (decide (i = 0) || ltB u v) = true := h2
  have h3 : decide (i = 0) = false := decide_eq_false (by omega)
  rw [h3, Bool.false_or] at h2
  exact ltB_iff.1 h2
theorem gV_sorted {c : List Int} {g : List VxD} (h : gV c g = true) : sortedV g :=
  sorted_of_next fun i u v hu hv => (gV_cell h hv).2.2 u (by omega) (by simpa using hu)
theorem asc_nodup {c s : List Int} (h : memV c s = true) : s.Nodup := by
  have hlt : ∀ (j i : Nat) x y, i < j → s[i]? = some x → s[j]? = some y → x < y := by
    intro j
    induction j with
    | zero => intro i x y hij; omega
    | succ j ih =>
      intro i x y hij hx hy
      have hj := (List.getElem?_eq_some_iff.1 hy).1
      have hz : s[j]? = some s[j] := List.getElem?_eq_getElem (by omega)
      have h1 := mem_all h (j + 1) hj
      simp only [mcell, getD_of hy, Nat.add_sub_cancel, getD_of hz, Bool.and_eq_true, Bool.or_eq_true, decide_eq_true_eq] at h1
      have h2 : s[j] < y := by omega
      rcases Nat.lt_or_ge i j with hlt | hge
      · have := ih i x _ hlt hx hz
        omega
      · obtain rfl : i = j := by omega
        rw [hx] at hz
        cases hz
        exact h2
  refine List.pairwise_iff_getElem.2 fun i j hi hj hij e => ?_
  have := hlt j i _ _ hij (List.getElem?_eq_getElem hi) (List.getElem?_eq_getElem hj)
  omega
theorem vx_out {c : List Int} {v : VxD} (h : vxV c v = true) : (0 ≤ v.r ∧ v.r ≤ 30) ∧ (0 ≤ v.a ∧ v.a < c.length) ∧ memV c v.p = true ∧ (v.r = 0 → v.p = []) ∧ (v.r ≠ 0 → quo c ≤ wgt c v.p) := by
  unfold vxV at h
  simp only [Bool.and_eq_true] at h
  obtain ⟨h1, h2, h3, h4, h5⟩ := h
  have g1 := inR_out h1
  have g2 := inR_out h2
  refine ⟨g1, by omega, h3, fun e => ?_, fun e => ?_⟩
  · rw [if_pos e] at h5
    exact List.eq_nil_of_length_eq_zero (of_decide_eq_true h5)
  · rw [if_neg e] at h5
    exact of_decide_eq_true h5
/-- A valid graph is as the plain laws ask. -/
theorem gV_ok {c : List Int} {g : List VxD} (h : gV c g = true) : Gok c g := by
  have hc : comV c = true := by
    unfold gV at h
    rw [Bool.and_eq_true] at h
    exact h.1
  refine ⟨fun x hx => ((com_out hc).2.2 x hx).1, gV_sorted h, fun v hv => ?_, fun v hv h0 => ?_⟩
  · obtain ⟨i, hi⟩ := List.mem_iff_getElem?.1 hv
    obtain ⟨h1, h2, _⟩ := gV_cell h hi
    have hm := (vx_out h1).2.2.1
    refine ⟨asc_nodup hm, fun x hx => ?_, fun x hx => ?_⟩
    · obtain ⟨j, hj⟩ := List.mem_iff_getElem?.1 hx
      exact mem_rng hm hj
    · unfold parB at h2
      rw [List.all_eq_true] at h2
      exact Option.isSome_iff_exists.1 (h2 x hx)
  · obtain ⟨i, hi⟩ := List.mem_iff_getElem?.1 hv
    obtain ⟨h1, _, _⟩ := gV_cell h hi
    exact (vx_out h1).2.2.2.2 h0
theorem gV_auth {c : List Int} {g : List VxD} (h : gV c g = true) : ∀ v ∈ g, 0 ≤ v.a ∧ v.a < c.length := fun v hv => by
  obtain ⟨i, hi⟩ := List.mem_iff_getElem?.1 hv
  exact (vx_out (gV_cell h hi).1).2.1
end Go.Proofs.Ytalbgcpfekmfoaa
