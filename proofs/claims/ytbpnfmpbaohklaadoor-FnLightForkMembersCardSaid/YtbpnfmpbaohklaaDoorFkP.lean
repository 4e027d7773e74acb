/-
Quorums meet: plain facts on members and weights.
No conditions.
-/
import Derived.Test.YtbpnfmpbaohklaaDoorLmA
namespace Go.Proofs.YtbpnfmpbaohklaaDoor
open Go Go.Vc
set_option maxHeartbeats 1000000
set_option maxRecDepth 10000
def rgI (n : Nat) : List Int := (List.range n).map fun (j : Nat) => (j : Int)
theorem rgI_succ (n : Nat) : rgI (n + 1) = rgI n ++ [(n : Int)] := by simp [rgI, List.range_succ]
theorem rgI_mem {n : Nat} {x : Int} : x ∈ rgI n ↔ 0 ≤ x ∧ x < n := by
  simp only [rgI, List.mem_map, List.mem_range]
  constructor
  · rintro ⟨j, h, rfl⟩; omega
  · rintro ⟨h0, h1⟩; exact ⟨x.toNat, by omega, by omega⟩
theorem canon_of : ∀ (n : Nat) (s : List Int), s.Pairwise (· < ·) → (∀ x ∈ s, 0 ≤ x ∧ x < n) → s = (rgI n).filter fun x => decide (x ∈ s)
  | 0, s, _, h => by
    cases s with
    | nil => rfl
    | cons x r => have := h x (by simp); omega
  | n + 1, s, hp, h => by
    by_cases hm : (n : Int) ∈ s
    · obtain ⟨a, b, rfl⟩ := List.append_of_mem hm
      have hb : b = [] := by
        cases b with
        | nil => rfl
        | cons y r =>
          have h1 := h y (by simp)
          have h2 := (List.pairwise_append.1 hp).2.1
          have h3 := (List.pairwise_cons.1 h2).1 y (by simp)
          omega
      subst hb
      have ha := List.pairwise_append.1 hp
      have hlt : ∀ x ∈ a, x < (n : Int) := fun x hx => ha.2.2 x hx _ (by simp)
      have ih := canon_of n a ha.1 fun x hx => ⟨(h x (by simp [hx])).1, hlt x hx⟩
      rw [rgI_succ, List.filter_append]
      congr 1
      · rw [ih]
        refine List.filter_congr fun x hx => ?_
        have hx := rgI_mem.1 hx
        rw [← ih]
        have : x ≠ (n : Int) := by omega
        simp [this]
      · simp
    · have ih := canon_of n s hp fun x hx => by
        have h1 := h x hx
        have : x ≠ (n : Int) := by rintro rfl; exact hm hx
        omega
      rw [rgI_succ, List.filter_append]
      have e : List.filter (fun x => decide (x ∈ s)) [(n : Int)] = [] := by simp [hm]
      rw [e, List.append_nil]
      exact ih
theorem memV_pair {c s : List Int} (h : memV c s = true) : s.Pairwise (· < ·) := by
  rw [List.pairwise_iff_getElem]
  intro i j hi hj hij
  have key : ∀ (d i : Nat) (hi : i < s.length) (hd : i + d + 1 < s.length), s[i] < s[i + d + 1] := by
    intro d
    induction d with
    | zero =>
      intro i hi hd
      have h1 := mem_all h (i + 1) hd
      have e1 : s.getD (i + 1) 0 = s[i + 1] := getD_of (List.getElem?_eq_getElem hd)
      have e2 : s.getD i 0 = s[i] := getD_of (List.getElem?_eq_getElem hi)
      simp only [mcell, Nat.add_sub_cancel, e1, e2, Bool.and_eq_true, Bool.or_eq_true, decide_eq_true_eq] at h1
      simp only [Nat.add_zero]
      omega
    | succ d ih =>
      intro i hi hd
      have h1 := ih i hi (by omega)
      have h2 := mem_all h (i + (d + 1) + 1) hd
      have e1 : s.getD (i + (d + 1) + 1) 0 = s[i + (d + 1) + 1] := getD_of (List.getElem?_eq_getElem hd)
      have e2 : s.getD (i + (d + 1)) 0 = s[i + (d + 1)] := getD_of (List.getElem?_eq_getElem (by omega))
      simp only [mcell, Nat.add_sub_cancel, e1, e2, Bool.and_eq_true, Bool.or_eq_true, decide_eq_true_eq] at h2
      have e3 : s[i + d + 1] = s[i + (d + 1)] := rfl
      omega
  have := key (j - i - 1) i hi (by omega)
  have e : i + (j - i - 1) + 1 = j := by omega
  simpa only [e] using this
theorem canon {c s : List Int} (h : memV c s = true) : s = (rgI c.length).filter fun x => decide (x ∈ s) :=
  canon_of _ _ (memV_pair h) fun x hx => by
    obtain ⟨i, hi⟩ := List.mem_iff_getElem?.1 hx
    exact mem_rng h hi
theorem memV_of {c s : List Int} (hp : s.Pairwise (· < ·)) (h : ∀ x ∈ s, 0 ≤ x ∧ x < c.length) : memV c s = true := by
  refine mem_yes fun j hj => ?_
  have hx : s[j]? = some s[j] := List.getElem?_eq_getElem hj
  have hr : inR s[j] 0 ((c.length : Int) - 1) = true := by
    have := h s[j] (List.getElem_mem hj)
    simp [inR]; omega
  rcases Nat.eq_zero_or_pos j with rfl | h0
  · exact mcell_first hx hr
  · have hy : s[j - 1]? = some s[j - 1] := List.getElem?_eq_getElem (by omega)
    exact mcell_ok hx hr hy (List.pairwise_iff_getElem.1 hp (j - 1) j (by omega) hj (by omega))
theorem comL_memV {c s t : List Int} (h : memV c s = true) : memV c (comL s t) = true := by
  refine memV_of ((memV_pair h).filter _) fun x hx => ?_
  obtain ⟨i, hi⟩ := List.mem_iff_getElem?.1 (List.mem_filter.1 hx).1
  exact mem_rng h hi
theorem comL_comm {c s t : List Int} (h : memV c s = true) (h2 : memV c t = true) : comL s t = comL t s := by
  have e1 := canon (comL_memV (t := t) h)
  have e2 := canon (comL_memV (t := s) h2)
  rw [e1, e2]
  refine List.filter_congr fun x _ => ?_
  simp only [comL, List.mem_filter, decide_eq_true_eq]
  rw [decide_eq_decide]
  exact And.comm
theorem wgt_filter (c : List Int) (p : Int → Bool) : ∀ n : Nat, wgt c ((rgI n).filter p) = ((List.range n).map fun (j : Nat) => if p (j : Int) = true then c.getD j 0 else 0).sum
  | 0 => rfl
  | n + 1 => by
    rw [rgI_succ, List.filter_append, List.range_succ, List.map_append, List.sum_append_int, ← wgt_filter c p n]
    unfold wgt
    rw [List.map_append, List.sum_append_int]
    congr 1
    cases hp : p (n : Int) <;> simp [hp]
theorem sum_range (c : List Int) : ∀ n : Nat, n ≤ c.length → ((List.range n).map fun (j : Nat) => c.getD j 0).sum = (c.take n).sum
  | 0, _ => by simp
  | n + 1, h => by
    have hx : c[n]? = some c[n] := List.getElem?_eq_getElem (by omega)
    rw [List.range_succ, List.map_append, List.sum_append_int, sum_range c n (by omega), sum_take hx]
    simp [List.getD, hx]
theorem sum_meet (f : Nat → Int) (p q : Nat → Bool) (hf : ∀ j, 0 ≤ f j) : ∀ n : Nat, ((List.range n).map fun j => if p j = true then f j else 0).sum + ((List.range n).map fun j => if q j = true then f j else 0).sum ≤
    ((List.range n).map f).sum + ((List.range n).map fun j => if (p j && q j) = true then f j else 0).sum
  | 0 => by simp
  | n + 1 => by
    have ih := sum_meet f p q hf n
    have h0 := hf n
    simp only [List.range_succ, List.map_append, List.sum_append_int, List.map_cons, List.map_nil, List.sum_cons, List.sum_nil]
    cases p n <;> cases q n <;> simp only [Bool.and_self, Bool.and_false, Bool.and_true, Bool.false_eq_true, if_false, if_true] <;> omega
theorem quorums_meet {c s t : List Int} (hc : ∀ x ∈ c, 0 ≤ x ∧ x ≤ 999) (h : memV c s = true) (h2 : memV c t = true) : wgt c s + wgt c t ≤ c.sum + wgt c (comL s t) := by
  have e1 := canon h
  have e2 := canon h2
  have e3 : comL s t = (rgI c.length).filter fun x => decide (x ∈ s) && decide (x ∈ t) := by
    unfold comL
    conv => lhs; rw [e1]
    rw [List.filter_filter]
    refine List.filter_congr fun x _ => ?_
    exact Bool.and_comm _ _
  have hg : ∀ j, 0 ≤ c.getD j 0 := fun j => by
    rcases Nat.lt_or_ge j c.length with hl | hl
    · have := hc c[j] (List.getElem_mem hl)
      simpa [List.getD, hl] using this.1
    · simp [List.getD, hl]
  have key := sum_meet (fun j => c.getD j 0) (fun j => decide ((j : Int) ∈ s)) (fun j => decide ((j : Int) ∈ t)) hg c.length
  rw [sum_range c c.length (Nat.le_refl _), List.take_length] at key
  rw [e3, wgt_filter]
  conv => lhs; rw [e1, e2]
  rw [wgt_filter, wgt_filter]
  exact key
theorem fork_heavy {c s t : List Int} (hc : ∀ x ∈ c, 0 ≤ x ∧ x ≤ 999) (h : memV c s = true) (h2 : memV c t = true) (q1 : quo c ≤ wgt c s) (q2 : quo c ≤ wgt c t) : (c.sum - 1) / 3 < wgt c (comL s t) := by
  have := quorums_meet hc h h2
  unfold quo at q1 q2
  omega
end Go.Proofs.YtbpnfmpbaohklaaDoor
