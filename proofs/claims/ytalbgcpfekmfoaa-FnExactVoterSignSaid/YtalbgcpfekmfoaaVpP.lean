/-
Votes and voters, in plain Lean.
No conditions.
-/
import Derived.Test.YtalbgcpfekmfoaaEvA
namespace Go.Proofs.Ytalbgcpfekmfoaa
open Go Go.Vc
structure VtD where
  r : Int
  a : Int
  d : Int
  deriving DecidableEq
def VtD.row (v : VtD) : List AV := [I v.r, I v.a, I v.d]
def VtD.lt (u v : VtD) : Prop := u.r < v.r ∨ (u.r = v.r ∧ u.a < v.a)
theorem VtD.lt_trans {a b c : VtD} (h : a.lt b) (k : b.lt c) : a.lt c := by
  unfold VtD.lt at *
  omega
theorem VtD.lt_irrefl {a : VtD} (h : a.lt a) : False := by
  unfold VtD.lt at *
  omega
def tltB (u v : VtD) : Bool := decide (u.r < v.r) || (decide (u.r = v.r) && decide (u.a < v.a))
theorem tltB_iff {u v : VtD} : tltB u v = true ↔ u.lt v := by
  simp [tltB, VtD.lt]
theorem tltB_no {u v : VtD} : tltB u v = false ↔ ¬ u.lt v := by
  rw [← tltB_iff]
  simp
def vtV (v : VtD) : Bool := inR v.r 0 30 && (inR v.a 0 6 && inR v.d 0 990)
theorem inT_out {a b c : Int} (h : inR a b c = true) : b ≤ a ∧ a ≤ c := by
  simpa [inR] using h
theorem vt_out {v : VtD} (h : vtV v = true) : (0 ≤ v.r ∧ v.r ≤ 30) ∧ (0 ≤ v.a ∧ v.a ≤ 6) ∧ (0 ≤ v.d ∧ v.d ≤ 990) := by
  unfold vtV at h
  rw [Bool.and_eq_true, Bool.and_eq_true] at h
  exact ⟨inT_out h.1, inT_out h.2.1, inT_out h.2.2⟩
/-- One vote of a voter: valid, not below the floor, behind the one ahead of it. -/
def vcell (f : Int) (l : List VtD) (i : Nat) : Bool := match l[i]? with
  | some v => vtV v && (decide (f ≤ v.r) && (match l[i - 1]? with
    | some u => decide (i = 0) || tltB u v
    | none => false))
  | none => false
def vrV (f : Int) (l : List VtD) : Bool := inR f 0 31 && (decide (l.length ≤ 40) && (List.range l.length).all (vcell f l))
theorem vr_no {f : Int} {l : List VtD} {i : Nat} (hi : i < l.length) (h : vcell f l i = false) : vrV f l = false := by
  unfold vrV
  have : (List.range l.length).all (vcell f l) = false := by
    rw [List.all_eq_false]
    exact ⟨i, by simpa using hi, by rw [h]; simp⟩
  rw [this, Bool.and_false, Bool.and_false]
theorem vr_yes {f : Int} {l : List VtD} (h : ∀ i, i < l.length → vcell f l i = true) : vrV f l = (inR f 0 31 && decide (l.length ≤ 40)) := by
  unfold vrV
  have : (List.range l.length).all (vcell f l) = true := by
    rw [List.all_eq_true]
    exact fun i hi => h i (by simpa using hi)
  rw [this, Bool.and_true]
theorem vc_first {f : Int} {l : List VtD} {v : VtD} (hv : l[0]? = some v) : vcell f l 0 = (vtV v && decide (f ≤ v.r)) := by
  unfold vcell
  rw [Nat.zero_sub, hv]
  simp
theorem vc_next {f : Int} {l : List VtD} {i : Nat} {u v : VtD} (hi : 0 < i) (hv : l[i]? = some v) (hu : l[i - 1]? = some u) : vcell f l i = (vtV v && (decide (f ≤ v.r) && tltB u v)) := by
  unfold vcell
  rw [hv, hu]
  have e : decide (i = 0) = false := decide_eq_false (by omega)
  dsimp only
  rw [e, Bool.false_or]
theorem vc_vt {f : Int} {l : List VtD} {i : Nat} {v : VtD} (hv : l[i]? = some v) (h : vtV v = false) : vcell f l i = false := by
  unfold vcell
  rw [hv]
  simp [h]
theorem vc_fl {f : Int} {l : List VtD} {i : Nat} {v : VtD} (hv : l[i]? = some v) (h : ¬ f ≤ v.r) : vcell f l i = false := by
  unfold vcell
  rw [hv]
  simp [h]
def sortedT (l : List VtD) : Prop := ∀ (i j : Nat) u v, i < j → l[i]? = some u → l[j]? = some v → u.lt v
theorem sorted_of_nextT {l : List VtD} (h : ∀ (i : Nat) u v, l[i]? = some u → l[i + 1]? = some v → u.lt v) : sortedT l := by
  intro i j u v hij hu hv
  obtain ⟨k, rfl⟩ : ∃ k, j = i + 1 + k := ⟨j - (i + 1), by omega⟩
  induction k generalizing v with
  | zero => exact h i u v hu hv
  | succ k ih =>
    have hl := (List.getElem?_eq_some_iff.1 hv).1
    have hw : l[i + 1 + k]? = some l[i + 1 + k] := List.getElem?_eq_getElem (by omega)
    exact VtD.lt_trans (ih _ (by omega) hw) (h (i + 1 + k) _ _ hw hv)
theorem vr_out {f : Int} {l : List VtD} (h : vrV f l = true) : (0 ≤ f ∧ f ≤ 31) ∧ l.length ≤ 40 ∧ sortedT l ∧ ∀ v ∈ l, vtV v = true ∧ f ≤ v.r := by
  unfold vrV at h
  rw [Bool.and_eq_true, Bool.and_eq_true, List.all_eq_true] at h
  obtain ⟨h1, h2, h3⟩ := h
  have hc : ∀ (i : Nat) v, l[i]? = some v → (vtV v = true ∧ f ≤ v.r) ∧ ∀ u, 0 < i → l[i - 1]? = some u → u.lt v := by
    intro i v hv
    have hi := (List.getElem?_eq_some_iff.1 hv).1
    have q := h3 i (by simpa using hi)
    unfold vcell at q
    rw [hv] at q
    simp only [Bool.and_eq_true] at q
    refine ⟨⟨q.1, of_decide_eq_true q.2.1⟩, fun u h0 hu => ?_⟩
    have q2 := q.2.2
    rw [hu] at q2
    have q2 : (decide (i = 0) || tltB u v) = true := q2
    have q3 : decide (i = 0) = false := decide_eq_false (by omega)
    rw [q3, Bool.false_or] at q2
    exact tltB_iff.1 q2
  refine ⟨inT_out h1, of_decide_eq_true h2, sorted_of_nextT fun i u v hu hv => (hc _ _ hv).2 u (by omega) (by simpa using hu), fun v hv => ?_⟩
  obtain ⟨i, hi⟩ := List.mem_iff_getElem?.1 hv
  exact (hc i v hi).1
def sameS (u v : VtD) : Bool := decide (u.r = v.r) && decide (u.a = v.a)
theorem sameS_iff {u v : VtD} : sameS u v = true ↔ u.r = v.r ∧ u.a = v.a := by
  simp [sameS]
theorem lt_notsame {u v : VtD} (h : u.lt v) : sameS u v = false := by
  rw [Bool.eq_false_iff]
  intro e
  have := sameS_iff.1 e
  unfold VtD.lt at h
  omega
theorem gt_notsame {u v : VtD} (h : v.lt u) : sameS u v = false := by
  rw [Bool.eq_false_iff]
  intro e
  have := sameS_iff.1 e
  unfold VtD.lt at h
  omega
theorem same_of {u v : VtD} (h1 : ¬ u.lt v) (h2 : ¬ v.lt u) : sameS u v = true := by
  rw [sameS_iff]
  unfold VtD.lt at *
  omega
/-- How many votes stand ahead of v. -/
def plcT (l : List VtD) (v : VtD) : Nat := (l.takeWhile fun u => tltB u v).length
theorem plcT_is : ∀ {l : List VtD} {v : VtD} {i : Nat}, i ≤ l.length → (∀ (j : Nat) u, j < i → l[j]? = some u → tltB u v = true) → (∀ u, l[i]? = some u → tltB u v = false) → plcT l v = i
  | [], v, i, hi, _, _ => by
    have : i = 0 := by simpa using hi
    rw [this]
    rfl
  | x :: l, v, 0, _, _, h => by
    unfold plcT
    rw [List.takeWhile_cons, h x rfl]
    rfl
  | x :: l, v, i + 1, hi, h1, h2 => by
    have := plcT_is (l := l) (v := v) (i := i) (by simpa using hi) (fun j u hj hu => h1 (j + 1) u (by omega) (by simpa using hu)) fun u hu => h2 u (by simpa using hu)
    unfold plcT at this ⊢
    rw [List.takeWhile_cons, h1 0 x (by omega) rfl]
    simp [this]
theorem plcT_spec (l : List VtD) (v : VtD) : plcT l v ≤ l.length ∧ (∀ (j : Nat) u, j < plcT l v → l[j]? = some u → u.lt v) ∧ ∀ u, l[plcT l v]? = some u → ¬ u.lt v := by
  induction l with
  | nil => exact ⟨Nat.le_refl _, fun j u hj => absurd hj (by simp [plcT]), fun u hu => by simp at hu⟩
  | cons x l ih =>
    by_cases hx : tltB x v = true
    · have e : plcT (x :: l) v = plcT l v + 1 := by
        unfold plcT
        rw [List.takeWhile_cons, hx]
        rfl
      rw [e]
      refine ⟨by have := ih.1; simp; omega, fun j u hj hu => ?_, fun u hu => ih.2.2 u (by simpa using hu)⟩
      cases j with
      | zero =>
        cases hu
        exact tltB_iff.1 hx
      | succ j => exact ih.2.1 j u (by omega) (by simpa using hu)
    · have e : plcT (x :: l) v = 0 := by
        unfold plcT
        rw [List.takeWhile_cons, if_neg hx]
        rfl
      rw [e]
      refine ⟨Nat.zero_le _, fun j u hj => absurd hj (by omega), fun u hu => ?_⟩
      cases hu
      exact fun q => hx (tltB_iff.2 q)
def insT (l : List VtD) (v : VtD) : List VtD := l.take (plcT l v) ++ v :: l.drop (plcT l v)
/-- What VoterSign makes of a valid voter and a valid vote. -/
def signS (f : Int) (l : List VtD) (v : VtD) : List VtD × Bool := match l.find? fun u => sameS u v with
  | some u => (l, decide (u.d = v.d))
  | none => if v.r < f ∨ 40 ≤ l.length then (l, false) else (insT l v, true)
theorem find_atT : ∀ {l : List VtD} {v u : VtD} {k : Nat}, l[k]? = some u → sameS u v = true → (∀ (j : Nat) w, j < k → l[j]? = some w → sameS w v = false) → (l.find? fun u => sameS u v) = some u
  | [], v, u, k, h, _, _ => by simp at h
  | x :: l, v, u, 0, h, hs, _ => by
    cases h
    rw [List.find?_cons, hs]
  | x :: l, v, u, k + 1, h, hs, ha => by
    rw [List.find?_cons, ha 0 x (by omega) rfl]
    exact find_atT (k := k) (by simpa using h) hs fun j w hj hw => ha (j + 1) w (by omega) (by simpa using hw)
theorem find_noT {l : List VtD} {v : VtD} (h : ∀ u ∈ l, sameS u v = false) : (l.find? fun u => sameS u v) = none := by
  rw [List.find?_eq_none]
  intro u hu
  rw [h u hu]
  simp
/-- In a list in order, from a place on. -/
theorem sorted_from {l : List VtD} (hs : sortedT l) {v u : VtD} {k : Nat} (hu : l[k]? = some u) (hlt : v.lt u) : ∀ (j : Nat) w, k ≤ j → l[j]? = some w → v.lt w := by
  intro j w hj hw
  rcases Nat.lt_or_ge k j with h | h
  · exact VtD.lt_trans hlt (hs k j u w h hu hw)
  · obtain rfl : j = k := by omega
    rw [hu] at hw
    cases hw
    exact hlt
theorem no_same {l : List VtD} (hs : sortedT l) {v : VtD} {k : Nat} (h1 : ∀ (j : Nat) u, j < k → l[j]? = some u → u.lt v) (h2 : ∀ u, l[k]? = some u → v.lt u) : ∀ u ∈ l, sameS u v = false := by
  intro u hu
  obtain ⟨j, hj⟩ := List.mem_iff_getElem?.1 hu
  rcases Nat.lt_or_ge j k with h | h
  · exact lt_notsame (h1 j u h hj)
  · have hl := (List.getElem?_eq_some_iff.1 hj).1
    have hk : l[k]? = some l[k] := List.getElem?_eq_getElem (by omega)
    exact gt_notsame (sorted_from hs hk (h2 _ hk) j u h hj)
theorem ltT_ext : ∀ {X Y : List VtD}, X.Pairwise VtD.lt → Y.Pairwise VtD.lt → (∀ v, v ∈ X ↔ v ∈ Y) → X = Y
  | [], [], _, _, _ => rfl
  | [], y :: Y, _, _, h => absurd ((h y).2 (by simp)) (by simp)
  | x :: X, [], _, _, h => absurd ((h x).1 (by simp)) (by simp)
  | x :: X, y :: Y, hx, hy, h => by
    obtain ⟨hx1, hx2⟩ := List.pairwise_cons.1 hx
    obtain ⟨hy1, hy2⟩ := List.pairwise_cons.1 hy
    have e : x = y := by
      rcases List.mem_cons.1 ((h x).1 (by simp)) with e | h1
      · exact e
      rcases List.mem_cons.1 ((h y).2 (by simp)) with e | h2
      · exact e.symm
      exact (VtD.lt_irrefl (VtD.lt_trans (hy1 x h1) (hx1 y h2))).elim
    subst e
    congr 1
    refine ltT_ext hx2 hy2 fun v => ⟨fun hv => ?_, fun hv => ?_⟩
    · rcases List.mem_cons.1 ((h v).1 (List.mem_cons_of_mem _ hv)) with e | h1
      · subst e
        exact (VtD.lt_irrefl (hx1 v hv)).elim
      · exact h1
    · rcases List.mem_cons.1 ((h v).2 (List.mem_cons_of_mem _ hv)) with e | h1
      · subst e
        exact (VtD.lt_irrefl (hy1 v hv)).elim
      · exact h1
theorem sorted_pair {l : List VtD} (h : sortedT l) : l.Pairwise VtD.lt := by
  rw [List.pairwise_iff_getElem]
  intro i j hi hj hij
  exact h i j _ _ hij (List.getElem?_eq_getElem hi) (List.getElem?_eq_getElem hj)
theorem ins_memT {l : List VtD} {v u : VtD} : u ∈ insT l v ↔ u ∈ l ∨ u = v := by
  unfold insT
  constructor
  · intro h
    rcases List.mem_append.1 h with h | h
    · exact .inl (List.mem_of_mem_take h)
    · rcases List.mem_cons.1 h with h | h
      · exact .inr h
      · exact .inl (List.mem_of_mem_drop h)
  · rintro (h | rfl)
    · rw [← List.take_append_drop (plcT l v) l] at h
      rcases List.mem_append.1 h with h | h
      · exact List.mem_append_left _ h
      · exact List.mem_append_right _ (List.mem_cons_of_mem _ h)
    · simp
theorem ins_pairT {l : List VtD} {v : VtD} (hs : sortedT l) (hn : ∀ u ∈ l, sameS u v = false) : (insT l v).Pairwise VtD.lt := by
  obtain ⟨h1, h2, h3⟩ := plcT_spec l v
  have hp := sorted_pair hs
  have hgt : ∀ u ∈ l.drop (plcT l v), v.lt u := by
    intro u hu
    obtain ⟨j, hj⟩ := List.mem_iff_getElem?.1 hu
    rw [List.getElem?_drop] at hj
    have hl := (List.getElem?_eq_some_iff.1 hj).1
    have hk : l[plcT l v]? = some l[plcT l v] := List.getElem?_eq_getElem (by omega)
    have hlt : v.lt l[plcT l v] := by
      have q1 := h3 _ hk
      have q2 := hn _ (List.mem_of_getElem? hk)
      refine Classical.byContradiction fun q3 => ?_
      rw [same_of q1 q3] at q2
      cases q2
    exact sorted_from hs hk hlt _ u (by omega) hj
  have hlt : ∀ u ∈ l.take (plcT l v), u.lt v := by
    intro u hu
    obtain ⟨j, hj⟩ := List.mem_iff_getElem?.1 hu
    rw [List.getElem?_take] at hj
    split at hj
    · exact h2 j u (by assumption) hj
    · cases hj
  unfold insT
  rw [List.pairwise_append, List.pairwise_cons]
  refine ⟨hp.sublist (List.take_sublist _ _), ⟨hgt, hp.sublist (List.drop_sublist _ _)⟩, fun u hu w hw => ?_⟩
  rcases List.mem_cons.1 hw with rfl | hw
  · exact hlt u hu
  · exact VtD.lt_trans (hlt u hu) (hgt w hw)
theorem ins_lenT {l : List VtD} {v : VtD} : (insT l v).length = l.length + 1 := by
  have := (plcT_spec l v).1
  simp [insT]
  omega
theorem sign_len {f : Int} {l : List VtD} {v : VtD} (h : vrV f l = true) : (signS f l v).1.length ≤ 41 := by
  have := (vr_out h).2.1
  unfold signS
  split
  · dsimp only
    omega
  · split
    · dsimp only
      omega
    · dsimp only
      rw [ins_lenT]
      omega
end Go.Proofs.Ytalbgcpfekmfoaa
