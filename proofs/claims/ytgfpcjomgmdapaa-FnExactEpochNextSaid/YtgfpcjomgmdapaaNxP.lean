/-
The next epoch in plain words: members struck out one by one from the last, and members that are kept, are the same.
No conditions.
-/
import Derived.Test.YtgfpcjomgmdapaaCkA
namespace Go.Proofs.Ytgfpcjomgmdapaa
open Go Go.Vc
def del (g : Int) (c : List Int) : List Int := c.take g.toNat ++ c.drop (g.toNat + 1)
def delR (c gs : List Int) : List Int := gs.foldr del c
/-- The first i numbers of l whose places are not in gs. -/
def keepN (l gs : List Int) (i : Nat) : List Int := ((List.range i).filter fun (j : Nat) => !decide ((j : Int) ∈ gs)).map fun j => l.getD j 0
theorem keepN_succ (l gs : List Int) (i : Nat) : keepN l gs (i + 1) = keepN l gs i ++ if (i : Int) ∈ gs then [] else [l.getD i 0] := by
  unfold keepN
  rw [List.range_succ, List.filter_append, List.map_append]
  congr 1
  by_cases h : (i : Int) ∈ gs <;> simp [h]
theorem keepN_len (l gs : List Int) (i : Nat) : (keepN l gs i).length ≤ i := by
  unfold keepN
  rw [List.length_map]
  have := List.length_filter_le (fun j : Nat => !decide ((j : Int) ∈ gs)) (List.range i)
  rw [List.length_range] at this
  exact this
theorem del_len {g : Int} {c : List Int} (h0 : 0 ≤ g) (h : g < c.length) : (del g c).length = c.length - 1 := by
  simp [del]; omega
/-- Places in order, all of them in a list of n. -/
def Asc (n : Nat) (gs : List Int) : Prop := gs.Pairwise (· < ·) ∧ ∀ g ∈ gs, 0 ≤ g ∧ g < (n : Int)
theorem memV_asc {c gs : List Int} (h : memV c gs = true) : Asc c.length gs := by
  unfold memV at h
  rw [List.all_eq_true] at h
  have hc : ∀ i, i < gs.length → mcell c gs i = true := fun i hi => h i (by simpa using hi)
  have hstep : ∀ i, i + 1 < gs.length → gs.getD i 0 < gs.getD (i + 1) 0 := by
    intro i hi
    have := hc (i + 1) hi
    simp only [mcell, Bool.and_eq_true, Bool.or_eq_true, decide_eq_true_eq, Nat.add_sub_cancel] at this
    rcases this.2 with h | h
    · omega
    · exact h
  refine ⟨?_, fun g hg => ?_⟩
  · rw [List.pairwise_iff_getElem]
    have key : ∀ d i, i + d + 1 < gs.length → gs.getD i 0 < gs.getD (i + d + 1) 0 := by
      intro d
      induction d with
      | zero => intro i hi; exact hstep i hi
      | succ d ih => intro i hi; have := ih i (by omega); have h2 := hstep (i + d + 1) (by omega); have e : i + (d + 1) + 1 = i + d + 1 + 1 := by omega
                     rw [e]; omega
    intro i j hi hj hij
    have := key (j - i - 1) i (by omega)
    have e : i + (j - i - 1) + 1 = j := by omega
    rw [e] at this
    simpa [List.getD, hi, hj] using this
  · obtain ⟨i, hi, rfl⟩ := List.getElem_of_mem hg
    have := hc i hi
    simp only [mcell, inR, Bool.and_eq_true, decide_eq_true_eq] at this
    have e : gs.getD i 0 = gs[i] := by simp [List.getD, hi]
    rw [e] at this
    omega
theorem Asc.tail {n : Nat} {g : Int} {gs : List Int} (h : Asc n (g :: gs)) : Asc n gs ∧ (∀ x ∈ gs, g < x) ∧ 0 ≤ g ∧ g < (n : Int) := by
  obtain ⟨h1, h2⟩ := h
  rw [List.pairwise_cons] at h1
  exact ⟨⟨h1.2, fun x hx => h2 x (by simp [hx])⟩, h1.1, h2 g (by simp)⟩
theorem delR_len {c : List Int} : ∀ {gs : List Int}, Asc c.length gs → (delR c gs).length = c.length - gs.length ∧ gs.length ≤ c.length ∧ ∀ g, gs.head? = some g → g + gs.length ≤ c.length
  | [], _ => by simp [delR]
  | g :: gs, h => by
    obtain ⟨h1, h2, h3, h4⟩ := h.tail
    obtain ⟨g1, g2, g3⟩ := delR_len h1
    have hg : g + (gs.length + 1 : Nat) ≤ c.length := by
      cases gs with
      | nil => simp; omega
      | cons x t => have := g3 x rfl; have := h2 x (by simp); simp at *; omega
    have hl : (delR c (g :: gs)).length = (delR c gs).length - 1 := del_len h3 (by show g < ((delR c gs).length : Int); omega)
    refine ⟨by rw [hl, g1]; simp; omega, by simp; omega, fun x hx => by simp at hx; subst hx; simpa using hg⟩
/-- Struck out one by one from the last: those that are kept. -/
theorem delR_keep {c : List Int} : ∀ {gs : List Int}, Asc c.length gs → delR c gs = keepN c gs c.length
  | [], _ => by
    simp only [delR, List.foldr_nil, keepN, List.not_mem_nil, decide_false, Bool.not_false]
    rw [List.filter_eq_self.2 (by simp)]
    apply List.ext_getElem
    · simp
    · intro i h1 h2
      simp [List.getD, h1]
  | g :: gs, h => by
    obtain ⟨h1, h2, h3, h4⟩ := h.tail
    have ih := delR_keep h1
    have e : delR c (g :: gs) = del g (delR c gs) := rfl
    rw [e, ih]
    obtain ⟨m, rfl⟩ : ∃ m : Nat, g = m := ⟨g.toNat, by omega⟩
    have hm : m < c.length := by omega
    obtain ⟨d, hd⟩ : ∃ d, c.length = (m + 1) + d := ⟨c.length - (m + 1), by omega⟩
    have hr : List.range c.length = List.range m ++ [m] ++ (List.range d).map (fun j => j + (m + 1)) := by
      rw [hd, List.range_add, List.range_succ]
      congr 2
      funext j
      omega
    have hno : ∀ j, j ≤ m → ((j : Int) ∉ gs) := fun j hj hx => by have := h2 _ hx; omega
    have f1 : (List.range m).filter (fun (j : Nat) => !decide ((j : Int) ∈ gs)) = List.range m := List.filter_eq_self.2 fun j hj => by
      have := hno j (by have := List.mem_range.1 hj; omega)
      simp [this]
    have f2 : (List.range m).filter (fun (j : Nat) => !decide ((j : Int) ∈ (m : Int) :: gs)) = List.range m := List.filter_eq_self.2 fun j hj => by
      have h5 := List.mem_range.1 hj
      have := hno j (by omega)
      have h6 : ¬ (j : Int) = m := by omega
      simp [this]; omega
    have f3 : ((List.range d).map (fun j => j + (m + 1))).filter (fun (j : Nat) => !decide ((j : Int) ∈ (m : Int) :: gs)) = ((List.range d).map (fun j => j + (m + 1))).filter (fun (j : Nat) => !decide ((j : Int) ∈ gs)) := by
      refine List.filter_congr fun j hj => ?_
      obtain ⟨i, _, rfl⟩ := List.mem_map.1 hj
      have h6 : ¬ ((i + (m + 1) : Nat) : Int) = m := by omega
      simp only [List.mem_cons, h6, false_or]
    have k1 : keepN c gs c.length = c.take m ++ ([c.getD m 0] ++ (((List.range d).map (fun j => j + (m + 1))).filter (fun (j : Nat) => !decide ((j : Int) ∈ gs))).map fun j => c.getD j 0) := by
      unfold keepN
      rw [hr, List.filter_append, List.filter_append, f1, List.map_append, List.map_append, List.append_assoc]
      congr 1
      · apply List.ext_getElem
        · simp; omega
        · intro i q1 q2
          simp at q1
          have : i < c.length := by omega
          simp [List.getD, this]
      · have := hno m (Nat.le_refl _)
        simp [this]
    have k2 : keepN c ((m : Int) :: gs) c.length = c.take m ++ (((List.range d).map (fun j => j + (m + 1))).filter (fun (j : Nat) => !decide ((j : Int) ∈ gs))).map fun j => c.getD j 0 := by
      unfold keepN
      rw [hr, List.filter_append, List.filter_append, f2, f3, List.map_append, List.map_append]
      congr 1
      have : ([m].filter fun (j : Nat) => !decide ((j : Int) ∈ (m : Int) :: gs)) = [] := by simp
      rw [this, List.map_nil, List.append_nil]
      apply List.ext_getElem
      · simp; omega
      · intro i q1 q2
        simp at q1
        have : i < c.length := by omega
        simp [List.getD, this]
    rw [k1, k2]
    unfold del
    have hl : (c.take m).length = m := by simp; omega
    simp only [Int.toNat_natCast]
    rw [List.take_append_of_le_length (by omega), List.take_of_length_le (by omega)]
    congr 1
    rw [List.drop_append, hl]
    have e2 : m + 1 - m = 1 := by omega
    rw [e2, List.drop_eq_nil_of_le (by omega)]
    rfl
theorem foldr_drop {c gs : List Int} {i : Nat} (h : i < gs.length) : delR c (gs.drop (gs.length - (i + 1))) = del (gs.getD (gs.length - 1 - i) 0) (delR c (gs.drop (gs.length - i))) := by
  have e : gs.length - (i + 1) < gs.length := by omega
  rw [List.drop_eq_getElem_cons e]
  have e2 : gs.length - (i + 1) + 1 = gs.length - i := by omega
  have e3 : gs.getD (gs.length - 1 - i) 0 = gs[gs.length - (i + 1)] := by
    have : gs.length - 1 - i = gs.length - (i + 1) := by omega
    rw [this]; simp [List.getD, e]
  rw [e2, e3]
  rfl
theorem asc_drop {n : Nat} {gs : List Int} (h : Asc n gs) (i : Nat) : Asc n (gs.drop i) := ⟨h.1.sublist (List.drop_sublist _ _), fun g hg => h.2 g (List.mem_of_mem_drop hg)⟩
end Go.Proofs.Ytgfpcjomgmdapaa
