/-
Small graphs, rows of nodes, a number's place in a list.
No conditions.
-/
import Derived.Test.YtalbgcpfekmfoaaWiX
import Derived.Test.YtalbgcpfekmfoaaWgX
namespace Go.Proofs.Ytalbgcpfekmfoaa
open Go Go.Vc
set_option maxHeartbeats 2000000
set_option maxRecDepth 10000
theorem asc_len : ∀ (l : List Nat) (m k : Nat), l.Pairwise (· < ·) → (∀ y ∈ l, k ≤ y ∧ y < m) → l.length ≤ m - k := by
  intro l m
  induction l with
  | nil => intro k _ _; simp
  | cons a l ih =>
    intro k hp hy
    have ha := hy a (by simp)
    have := ih (a + 1) (List.pairwise_cons.1 hp).2 fun y hyl => ⟨(List.pairwise_cons.1 hp).1 y hyl, (hy y (by simp [hyl])).2⟩
    simp
    omega
/-- A valid graph is small. -/
theorem gV_len {c : List Int} {g : List VxD} (h : gV c g = true) : g.length ≤ 217 := by
  have hc := com_out (gV_comV h)
  have hr : ∀ v ∈ g, (0 ≤ v.r ∧ v.r ≤ 30) ∧ 0 ≤ v.a ∧ v.a < 7 := fun v hv => by
    obtain ⟨i, hi⟩ := List.mem_iff_getElem?.1 hv
    have h1 := vx_out (gV_cell h hi).1
    omega
  have hp : (g.map fun v => (v.r * 7 + v.a).toNat).Pairwise (· < ·) := by
    rw [List.pairwise_map]
    refine List.Pairwise.imp_of_mem (fun {a b} ha hb hab => ?_) (pair_of_sorted (gV_sorted h))
    have h1 := hr a ha
    have h2 := hr b hb
    unfold VxD.lt at hab
    omega
  have := asc_len _ 217 0 hp fun y hy => by
    obtain ⟨v, hv, rfl⟩ := List.mem_map.1 hy
    have := hr v hv
    omega
  simpa using this
theorem rp_cmp {F : List Fam} {b : Nat} {g : List VxD} (h : hasG F b g) {j k : Nat} (hj : j < g.length) (hk : k < g.length) : rpCmp F (b + j) 0 0 (b + k) 0 0 (decide (j = k)) := by
  by_cases e : j = k
  · rw [decide_eq_true e]
    exact ⟨by omega, rfl, rfl⟩
  · rw [decide_eq_false e]
    have h1 := h j _ (List.getElem?_eq_getElem hj)
    have h2 := h k _ (List.getElem?_eq_getElem hk)
    exact ⟨_, _, 4, j, k, h1, h2, rfl, rfl, by omega⟩
theorem elem_pos {o : Option TI} {te : TI} (h : o = some ⟨te.kind, te.agg, te.size, te.bytes, te.zero, te.fields, te.elem, te.alen, te.ik⟩) (h2 : 0 < te.size := by decide) : ∃ te, o = some te ∧ 0 < te.size := ⟨te, h, h2⟩
theorem rprow_in {b : Nat} {l : List Nat} {n : Nat} {P : List AV → Prop} (h : ∀ j, l[n]? = some j → P [.rp (b + j) 0 0]) : ∀ e, (rpRows b l)[n]? = some e → P e := by
  intro e he
  rw [List.getElem?_map] at he
  obtain ⟨v, hv, rfl⟩ := Option.map_eq_some_iff.1 he
  exact h v hv
theorem rprow_use {b : Nat} {l : List Nat} {n j : Nat} {P : List AV → Prop} (hj : l[n]? = some j) (h : P [.rp (b + j) 0 0]) : ∀ e, (rpRows b l)[n]? = some e → P e :=
  rprow_in fun u hu => by
    rw [hj] at hu
    cases hu
    exact h
def idxN : List Nat → Nat → Int
  | [], _ => -1
  | x :: l, y => if x = y then 0 else if idxN l y = -1 then -1 else idxN l y + 1
theorem idxN_ge : ∀ {l : List Nat} {y : Nat}, -1 ≤ idxN l y
  | [], _ => by simp [idxN]
  | x :: l, y => by
    have := idxN_ge (l := l) (y := y)
    unfold idxN
    split
    · omega
    · split <;> omega
theorem idxN_mem : ∀ {l : List Nat} {y : Nat}, decide (0 ≤ idxN l y) = decide (y ∈ l)
  | [], _ => rfl
  | x :: l, y => by
    have ih := idxN_mem (l := l) (y := y)
    have hg := idxN_ge (l := l) (y := y)
    rw [decide_eq_decide] at ih
    rw [decide_eq_decide]
    unfold idxN
    by_cases e : x = y
    · rw [if_pos e]
      simp [e]
    · rw [if_neg e]
      have e2 : ¬ y = x := fun h => e h.symm
      simp only [List.mem_cons, e2, false_or]
      rw [← ih]
      split <;> omega
theorem idxN_some : ∀ {l : List Nat} {y i : Nat}, l[i]? = some y → (∀ j, j < i → l[j]? ≠ some y) → idxN l y = i
  | [], _, _, h, _ => by simp at h
  | x :: l, y, 0, h, _ => by
    simp at h
    unfold idxN
    rw [if_pos h]
    rfl
  | x :: l, y, i + 1, h, hn => by
    have h0 := hn 0 (by omega)
    have e : ¬ x = y := fun e => h0 (by simp [e])
    have ih := idxN_some (l := l) (y := y) (i := i) (by simpa using h) fun j hj => by simpa using hn (j + 1) (by omega)
    unfold idxN
    rw [if_neg e, ih, if_neg (by omega)]
    omega
theorem idxN_none : ∀ {l : List Nat} {y : Nat}, (∀ j, j < l.length → l[j]? ≠ some y) → idxN l y = -1
  | [], _, _ => rfl
  | x :: l, y, hn => by
    have h0 := hn 0 (by simp)
    have e : ¬ x = y := fun e => h0 (by simp [e])
    have ih := idxN_none (l := l) (y := y) fun j hj => by simpa using hn (j + 1) (by simpa using hj)
    unfold idxN
    rw [if_neg e, ih, if_pos rfl]
theorem gV_gin {c : List Int} {g : List VxD} (h : gV c g = true) : gin c g := fun v hv => by
  obtain ⟨i, hi⟩ := List.mem_iff_getElem?.1 hv
  have := (gV_cell h hi).1
  unfold vxV at this
  exact ⟨and1 this, and1 (and2 this)⟩
/-- No more families: the call adds none. -/
theorem appK_nil {l : List Fam} {k : List Fam → Prop} (h : k l) : appK l [] k := appK_in (by rw [List.append_nil]; exact h)
end Go.Proofs.Ytalbgcpfekmfoaa
