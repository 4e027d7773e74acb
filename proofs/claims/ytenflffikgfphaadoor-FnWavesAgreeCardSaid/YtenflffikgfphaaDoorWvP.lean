/-
Committed waves in plain Lean: the chain of linked leaders, and why two readers agree.
No conditions.
-/
import Derived.Test.YtenflffikgfphaaDoorVcMF
namespace Go.Proofs.YtenflffikgfphaaDoor
open Go Go.Vc
/-- The waves ahead of 'cur' that are linked, one from the other, down to 'last', ascending. has: the wave has a leader; R x y: the leader of x depends on that of y. -/
def dnW (has : Nat → Bool) (R : Nat → Nat → Bool) : Nat → Nat → Nat → List Nat
  | _, 0, _ => []
  | cur, x + 1, last => if x + 1 ≤ last then [] else if (has (x + 1) && R cur (x + 1)) = true then dnW has R (x + 1) x last ++ [x + 1] else dnW has R cur x last
def chW (has : Nat → Bool) (R : Nat → Nat → Bool) (w last : Nat) : List Nat := dnW has R w (w - 1) last ++ [w]
/-- What is committed up to wave n, and the last wave that is committed directly. -/
def cmW (has : Nat → Bool) (R : Nat → Nat → Bool) (dir : Nat → Bool) : Nat → List Nat × Nat
  | 0 => ([], 0)
  | n + 1 => if dir (n + 1) = true then ((cmW has R dir n).1 ++ chW has R (n + 1) (cmW has R dir n).2, n + 1) else cmW has R dir n
variable {has : Nat → Bool} {R : Nat → Nat → Bool} {dir : Nat → Bool}
theorem dn_mem : ∀ {x cur last y : Nat}, y ∈ dnW has R cur x last → last < y ∧ y ≤ x ∧ has y = true
  | 0, _, _, _, h => by simp [dnW] at h
  | x + 1, cur, last, y, h => by
    unfold dnW at h
    split at h
    · simp at h
    · rename_i hl
      split at h
      · rename_i hr
        rcases List.mem_append.1 h with h | h
        · have := dn_mem h
          exact ⟨this.1, by omega, this.2.2⟩
        · simp at h
          subst h
          rw [Bool.and_eq_true] at hr
          exact ⟨by omega, Nat.le_refl _, hr.1⟩
      · have := dn_mem h
        exact ⟨this.1, by omega, this.2.2⟩
theorem dn_asc : ∀ {x cur last : Nat}, (dnW has R cur x last).Pairwise (· < ·)
  | 0, _, _ => by simp [dnW]
  | x + 1, cur, last => by
    unfold dnW
    split
    · simp
    · split
      · refine List.pairwise_append.2 ⟨dn_asc, by simp, fun a ha b hb => ?_⟩
        have := dn_mem ha
        simp at hb
        omega
      · exact dn_asc
/-- A chain passes through every wave that all later leaders depend on. -/
theorem dn_split {w last : Nat} (hw : has w = true) (hk : ∀ z, w < z → has z = true → R z w = true) (h0 : last < w) : ∀ {x cur : Nat}, w ≤ x → R cur w = true → dnW has R cur x last = chW has R w last ++ dnW has R cur x w
  | 0, _, h, _ => by omega
  | x + 1, cur, h, hc => by
    by_cases e : w = x + 1
    · subst e
      have e1 : dnW has R cur (x + 1) (x + 1) = [] := by
        unfold dnW
        rw [if_pos (Nat.le_refl _)]
      rw [e1, List.append_nil]
      show (if x + 1 ≤ last then [] else if (has (x + 1) && R cur (x + 1)) = true then dnW has R (x + 1) x last ++ [x + 1] else dnW has R cur x last) = _
      rw [if_neg (by omega), if_pos (by rw [hw, hc]; rfl)]
      rfl
    · have hx : w ≤ x := by omega
      show (if x + 1 ≤ last then [] else if (has (x + 1) && R cur (x + 1)) = true then dnW has R (x + 1) x last ++ [x + 1] else dnW has R cur x last) = chW has R w last ++ (if x + 1 ≤ w then [] else if (has (x + 1) && R cur (x + 1)) = true then dnW has R (x + 1) x w ++ [x + 1] else dnW has R cur x w)
      rw [if_neg (show ¬ (x + 1 ≤ last) by omega), if_neg (show ¬ (x + 1 ≤ w) by omega)]
      split
      · rename_i hr
        rw [Bool.and_eq_true] at hr
        rw [dn_split hw hk h0 hx (hk (x + 1) (by omega) hr.1), List.append_assoc]
      · exact dn_split hw hk h0 hx hc
theorem cm_last : ∀ {n : Nat}, (cmW has R dir n).2 ≤ n ∧ (0 < (cmW has R dir n).2 → dir (cmW has R dir n).2 = true)
  | 0 => ⟨Nat.le_refl _, fun h => by simp [cmW] at h⟩
  | n + 1 => by
    unfold cmW
    split
    · rename_i hd
      exact ⟨Nat.le_refl _, fun _ => hd⟩
    · have := cm_last (n := n)
      exact ⟨by omega, this.2⟩
theorem cm_no : ∀ {n : Nat}, (cmW has R dir n).2 = 0 → (cmW has R dir n).1 = []
  | 0, _ => rfl
  | n + 1, h => by
    unfold cmW at h ⊢
    split at h
    · simp at h
    · rename_i hd
      rw [if_neg hd]
      exact cm_no h
/-- All that is committed is one chain. -/
theorem cm_full (hd : ∀ w, dir w = true → has w = true) (hk : ∀ w z, dir w = true → w < z → has z = true → R z w = true) : ∀ {n : Nat}, 0 < (cmW has R dir n).2 → (cmW has R dir n).1 = chW has R (cmW has R dir n).2 0
  | 0, h => by simp [cmW] at h
  | n + 1, h => by
    have hl := cm_last (has := has) (R := R) (dir := dir) (n := n)
    unfold cmW at h ⊢
    split at h
    · rename_i hn
      rw [if_pos hn]
      simp only
      by_cases h0 : (cmW has R dir n).2 = 0
      · rw [cm_no h0, h0]
        rfl
      · have h1 := hl.2 (by omega)
        have e := dn_split (has := has) (R := R) (w := (cmW has R dir n).2) (last := 0) (hd _ h1) (fun z hz hh => hk _ z h1 hz hh) (by omega) (x := n) (cur := n + 1) hl.1 (hk _ _ h1 (by omega) (hd _ hn))
        rw [cm_full hd hk (by omega)]
        show chW has R (cmW has R dir n).2 0 ++ (dnW has R (n + 1) n (cmW has R dir n).2 ++ [n + 1]) = dnW has R (n + 1) n 0 ++ [n + 1]
        rw [e, List.append_assoc]
    · rename_i hn
      rw [if_neg hn]
      exact cm_full hd hk h
/-- Every wave that is committed directly is committed. -/
theorem cm_dir : ∀ {n w : Nat}, 0 < w → w ≤ n → dir w = true → w ∈ (cmW has R dir n).1
  | 0, _, h0, h1, _ => by omega
  | n + 1, w, h0, h1, hw => by
    unfold cmW
    by_cases e : w = n + 1
    · subst e
      rw [if_pos hw]
      exact List.mem_append_right _ (by simp [chW])
    · have := cm_dir h0 (show w ≤ n by omega) hw
      split
      · exact List.mem_append_left _ this
      · exact this
theorem cm_mem (hd : ∀ w, dir w = true → has w = true) : ∀ {n y : Nat}, y ∈ (cmW has R dir n).1 → 0 < y ∧ y ≤ (cmW has R dir n).2 ∧ has y = true
  | 0, _, h => by simp [cmW] at h
  | n + 1, y, h => by
    have hl := cm_last (has := has) (R := R) (dir := dir) (n := n)
    unfold cmW at h ⊢
    split at h
    · rename_i hn
      rw [if_pos hn]
      rcases List.mem_append.1 h with h | h
      · have := cm_mem hd h
        exact ⟨this.1, by simp only; omega, this.2.2⟩
      · rcases List.mem_append.1 h with h | h
        · have := dn_mem h
          exact ⟨by omega, by simp only; omega, this.2.2⟩
        · simp at h
          subst h
          exact ⟨by omega, Nat.le_refl _, hd _ hn⟩
    · rename_i hn
      rw [if_neg hn]
      exact cm_mem hd h
theorem cm_asc (hd : ∀ w, dir w = true → has w = true) : ∀ {n : Nat}, (cmW has R dir n).1.Pairwise (· < ·)
  | 0 => by simp [cmW]
  | n + 1 => by
    have hl := cm_last (has := has) (R := R) (dir := dir) (n := n)
    unfold cmW
    split
    · refine List.pairwise_append.2 ⟨cm_asc hd, List.pairwise_append.2 ⟨dn_asc, by simp, fun a ha b hb => ?_⟩, fun a ha b hb => ?_⟩
      · have := dn_mem ha
        simp at hb
        omega
      · have h1 := cm_mem hd ha
        rcases List.mem_append.1 hb with hb | hb
        · have := dn_mem hb
          omega
        · simp at hb
          omega
    · exact cm_asc hd
theorem cm_getLast : ∀ {n : Nat}, 0 < (cmW has R dir n).2 → (cmW has R dir n).1.getLast? = some (cmW has R dir n).2
  | 0, h => by simp [cmW] at h
  | n + 1, h => by
    unfold cmW at h ⊢
    split at h
    · rename_i hn
      rw [if_pos hn]
      simp [chW]
    · rename_i hn
      rw [if_neg hn]
      exact cm_getLast h
/-- Leaders of later waves do not matter. -/
theorem dn_congr {has' : Nat → Bool} {R' : Nat → Nat → Bool} : ∀ {x cur last : Nat}, (∀ y, y ≤ x → has' y = has y) → (∀ z y, (z = cur ∨ (z ≤ x ∧ has z = true)) → y ≤ x → has y = true → R' z y = R z y) → dnW has' R' cur x last = dnW has R cur x last
  | 0, _, _, _, _ => rfl
  | x + 1, cur, last, h1, h2 => by
    unfold dnW
    rw [h1 (x + 1) (Nat.le_refl _)]
    by_cases hl : x + 1 ≤ last
    · rw [if_pos hl, if_pos hl]
    · rw [if_neg hl, if_neg hl]
      cases hh : has (x + 1) with
      | false =>
        simp only [Bool.false_and, if_neg (show ¬ (false = true) by decide)]
        exact dn_congr (fun y hy => h1 y (by omega)) fun z y hz hy => h2 z y (by rcases hz with hz | hz; exact .inl hz; exact .inr ⟨by omega, hz.2⟩) (by omega)
      | true =>
        rw [h2 cur (x + 1) (.inl rfl) (Nat.le_refl _) hh, dn_congr (cur := x + 1) (fun y hy => h1 y (by omega)) (fun z y hz hy => h2 z y (by rcases hz with hz | hz; exact .inr ⟨by omega, by rw [hz]; exact hh⟩; exact .inr ⟨by omega, hz.2⟩) (by omega)),
          dn_congr (cur := cur) (fun y hy => h1 y (by omega)) (fun z y hz hy => h2 z y (by rcases hz with hz | hz; exact .inl hz; exact .inr ⟨by omega, hz.2⟩) (by omega))]
theorem cm_prefix : ∀ {k n : Nat}, n ≤ k → (cmW has R dir n).1 <+: (cmW has R dir k).1
  | 0, n, h => by
    obtain rfl : n = 0 := by omega
    exact List.prefix_refl _
  | k + 1, n, h => by
    by_cases e : n = k + 1
    · subst e; exact List.prefix_refl _
    · have := cm_prefix (k := k) (n := n) (by omega)
      conv => rhs; unfold cmW
      split
      · exact this.trans (List.prefix_append _ _)
      · exact this
/-- A chain is a prefix of the chain of a later wave whose leader depends on all waves that are committed directly. -/
theorem ch_prefix {a b : Nat} (ha : has a = true) (hk : ∀ z, a < z → has z = true → R z a = true) (h0 : 0 < a) (hab : a ≤ b) (hb : has b = true) : chW has R a 0 <+: chW has R b 0 := by
  by_cases e : a = b
  · subst e; exact List.prefix_refl _
  · refine ⟨dnW has R b (b - 1) a ++ [b], ?_⟩
    conv => rhs; unfold chW
    rw [dn_split ha hk h0 (by omega) (hk b (by omega) hb), List.append_assoc]
/-- Two readers of parts of one graph: what the one has committed begins what the other has. -/
theorem cm_agree {hasA hasB : Nat → Bool} {RA RB : Nat → Nat → Bool} {dirA dirB : Nat → Bool} {n : Nat} (hd : ∀ w, dir w = true → has w = true) (hk : ∀ w z, dir w = true → w < z → has z = true → R z w = true)
    (dA : ∀ w, dirA w = true → hasA w = true) (dB : ∀ w, dirB w = true → hasB w = true) (eA : ∀ w, dirA w = true → dir w = true) (eB : ∀ w, dirB w = true → dir w = true)
    (cA : ∀ w, hasA w = true → chW hasA RA w 0 = chW has R w 0) (cB : ∀ w, hasB w = true → chW hasB RB w 0 = chW has R w 0)
    (kA : ∀ w z, dirA w = true → w < z → hasA z = true → RA z w = true) (kB : ∀ w z, dirB w = true → w < z → hasB z = true → RB z w = true) :
    (cmW hasA RA dirA n).1 <+: (cmW hasB RB dirB n).1 ∨ (cmW hasB RB dirB n).1 <+: (cmW hasA RA dirA n).1 := by
  have lA := cm_last (has := hasA) (R := RA) (dir := dirA) (n := n)
  have lB := cm_last (has := hasB) (R := RB) (dir := dirB) (n := n)
  by_cases a0 : (cmW hasA RA dirA n).2 = 0
  · rw [cm_no a0]; exact .inl (List.nil_prefix)
  · by_cases b0 : (cmW hasB RB dirB n).2 = 0
    · rw [cm_no b0]; exact .inr (List.nil_prefix)
    · have a1 := lA.2 (by omega)
      have b1 := lB.2 (by omega)
      rw [cm_full dA kA (by omega), cm_full dB kB (by omega), cA _ (dA _ a1), cB _ (dB _ b1)]
      rcases Nat.le_total (cmW hasA RA dirA n).2 (cmW hasB RB dirB n).2 with h | h
      · exact .inl (ch_prefix (hd _ (eA _ a1)) (fun z hz hh => hk _ z (eA _ a1) hz hh) (by omega) h (hd _ (eB _ b1)))
      · exact .inr (ch_prefix (hd _ (eB _ b1)) (fun z hz hh => hk _ z (eB _ b1) hz hh) (by omega) h (hd _ (eA _ a1)))
end Go.Proofs.YtenflffikgfphaaDoor
