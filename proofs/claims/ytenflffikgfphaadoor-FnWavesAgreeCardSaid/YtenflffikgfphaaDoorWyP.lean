/-
The laws on committed waves in plain Lean.
No conditions.
-/
import Derived.Test.YtenflffikgfphaaDoorVwP
namespace Go.Proofs.YtenflffikgfphaaDoor
open Go Go.Vc
variable {has : Nat → Bool} {R : Nat → Nat → Bool} {dir : Nat → Bool}
theorem cm_max : ∀ {n w : Nat}, 0 < w → w ≤ n → dir w = true → w ≤ (cmW has R dir n).2
  | 0, _, h0, h1, _ => by omega
  | n + 1, w, h0, h1, hw => by
    unfold cmW
    by_cases e : w = n + 1
    · subst e
      rw [if_pos hw]
      exact Nat.le_refl _
    · have := cm_max h0 (show w ≤ n by omega) hw
      split
      · exact h1
      · exact this
/-- What a reader of a part has committed begins what is committed. -/
theorem out_grow {c : List Int} {g a : List VxD} {L : List Int} (hg : Gok c g) (ha : Sub a g) : outV c a L <+: outV c g L := by
  have kk : ∀ w z, dirV c a L w = true → w < z → hasV a L z = true → linkV a L z w = true := fun w z hd hz hh =>
    (sub_link hg.srt ha hh).2 (dir_link hg w z (sub_dir hg ha w hd) hz (sub_has hg.srt ha hh))
  have lA := cm_last (has := hasV a L) (R := linkV a L) (dir := dirV c a L) (n := L.length)
  have lG := cm_last (has := hasV g L) (R := linkV g L) (dir := dirV c g L) (n := L.length)
  unfold outV
  by_cases a0 : (cmW (hasV a L) (linkV a L) (dirV c a L) L.length).2 = 0
  · rw [cm_no a0]; exact List.nil_prefix
  · have a1 := lA.2 (by omega)
    have g1 := sub_dir hg ha _ a1
    have hm := cm_max (has := hasV g L) (R := linkV g L) (dir := dirV c g L) (show 0 < (cmW (hasV a L) (linkV a L) (dirV c a L) L.length).2 by omega) lA.1 g1
    rw [cm_full dir_has kk (by omega), cm_full dir_has (dir_link hg) (by omega), sub_ch hg.srt ha _ (dir_has _ a1)]
    exact ch_prefix (dir_has _ g1) (fun z hz hh => dir_link hg _ z g1 hz hh) (by omega) hm (dir_has _ (lG.2 (by omega)))
theorem cm_congr {has' : Nat → Bool} {R' : Nat → Nat → Bool} {dir' : Nat → Bool} : ∀ {n : Nat}, (∀ w, w ≤ n → has' w = has w) → (∀ z w, z ≤ n → w ≤ n → R' z w = R z w) → (∀ w, w ≤ n → dir' w = dir w) → cmW has' R' dir' n = cmW has R dir n
  | 0, _, _, _ => rfl
  | n + 1, h1, h2, h3 => by
    have ih := cm_congr (n := n) (fun w hw => h1 w (by omega)) (fun z w hz hw => h2 z w (by omega) (by omega)) (fun w hw => h3 w (show w ≤ n + 1 by omega))
    have e : chW has' R' (n + 1) (cmW has R dir n).2 = chW has R (n + 1) (cmW has R dir n).2 := by
      unfold chW
      rw [dn_congr (fun y hy => h1 y (by omega)) fun z y hz hy _ => h2 z y (by omega) (by omega)]
    unfold cmW
    rw [h3 (n + 1) (Nat.le_refl _), ih, e]
theorem lead_take {g : List VxD} {L : List Int} {k w : Nat} (h : w ≤ k) : leadV g (L.take k) w = leadV g L w := by
  unfold leadV
  split
  · rfl
  · rw [List.getElem?_take, if_pos (by omega)]
theorem link_take {g : List VxD} {L : List Int} {k z w : Nat} (hz : z ≤ k) (hw : w ≤ k) : linkV g (L.take k) z w = linkV g L z w := by
  unfold linkV
  rw [lead_take hz, lead_take hw]
theorem has_take {g : List VxD} {L : List Int} {k w : Nat} (h : w ≤ k) : hasV g (L.take k) w = hasV g L w := by
  unfold hasV
  rw [lead_take h]
theorem dir_take {c : List Int} {g : List VxD} {L : List Int} {k w : Nat} (h : w ≤ k) : dirV c g (L.take k) w = dirV c g L w := by
  unfold dirV
  rw [has_take h]
  cases hh : hasV g L w with
  | false => rfl
  | true =>
    obtain ⟨i, hi⟩ := has_lead hh
    have h0 := (lead_out hi).1
    rw [List.getD_eq_getElem?_getD, List.getD_eq_getElem?_getD, List.getElem?_take, if_pos (by omega)]
/-- Later leaders do not matter. -/
theorem out_leaders {c : List Int} {g : List VxD} {L : List Int} {k : Nat} (hk : k ≤ L.length) : outV c g (L.take k) <+: outV c g L := by
  unfold outV
  rw [List.length_take, Nat.min_eq_left hk, cm_congr (has := hasV g L) (R := linkV g L) (dir := dirV c g L) (fun w hw => has_take hw) (fun z w hz hw => link_take hz hw) fun w hw => dir_take hw]
  exact cm_prefix hk
/-- Neighbours in a chain are linked. -/
def lnkd (R : Nat → Nat → Bool) (l : List Nat) : Prop := ∀ (i : Nat) a b, l[i]? = some a → l[i + 1]? = some b → R b a = true
theorem lnkd_app {l : List Nat} {b : Nat} (h : lnkd R l) (hb : ∀ a, l.getLast? = some a → R b a = true) : lnkd R (l ++ [b]) := by
  intro i x y hx hy
  by_cases hi : i + 1 < l.length
  · rw [List.getElem?_append_left (by omega)] at hx hy
    exact h i x y hx hy
  · have hy2 := (List.getElem?_eq_some_iff.1 hy).1
    simp at hy2
    have e : i + 1 = l.length := by omega
    rw [List.getElem?_append_right (by omega), e, Nat.sub_self] at hy
    simp at hy
    subst hy
    rw [List.getElem?_append_left (by omega)] at hx
    refine hb x ?_
    rw [List.getLast?_eq_getElem?, ← hx]
    congr 1
    omega
theorem dn_lnkd : ∀ {x cur last : Nat}, lnkd R (dnW has R cur x last) ∧ ∀ a, (dnW has R cur x last).getLast? = some a → R cur a = true
  | 0, _, _ => by
    refine ⟨fun i a b h _ => by simp [dnW] at h, fun a h => by simp [dnW] at h⟩
  | x + 1, cur, last => by
    unfold dnW
    split
    · refine ⟨fun i a b h _ => by simp at h, fun a h => by simp at h⟩
    · split
      · rename_i hr
        rw [Bool.and_eq_true] at hr
        have ih := dn_lnkd (x := x) (cur := x + 1) (last := last)
        refine ⟨lnkd_app ih.1 ih.2, fun a h => ?_⟩
        simp at h
        subst h
        exact hr.2
      · exact dn_lnkd
theorem ch_lnkd {w last : Nat} : lnkd R (chW has R w last) := lnkd_app dn_lnkd.1 dn_lnkd.2
/-- Committed leaders are linked, each to the one ahead of it. -/
theorem out_linked {c : List Int} {g : List VxD} {L : List Int} (hg : Gok c g) : lnkd (linkV g L) (outV c g L) := by
  unfold outV
  by_cases h0 : (cmW (hasV g L) (linkV g L) (dirV c g L) L.length).2 = 0
  · rw [cm_no h0]
    intro i a b h
    simp at h
  · rw [cm_full dir_has (dir_link hg) (by omega)]
    exact ch_lnkd
/-- What is committed directly is in the past of all vertices of later rounds. -/
theorem dir_reach {c : List Int} {g : List VxD} {L : List Int} (hg : Gok c g) {w i k : Nat} {v : VxD} (hd : dirV c g L w = true) (hk : leadV g L w = some k) (hv : g[i]? = some v) (hr : (2 * w : Int) < v.r) : Reach g i k := by
  unfold dirV at hd
  rw [Bool.and_eq_true] at hd
  obtain ⟨w0, _, hf⟩ := lead_out hk
  exact past_of_support hg (r := 2 * w) (by omega) (of_decide_eq_true hd.2) hf (v.r - 2 * w - 1).toNat i v hv (by omega)
theorem out_asc {c : List Int} {g : List VxD} {L : List Int} : (outV c g L).Pairwise (· < ·) := cm_asc dir_has
theorem out_mem {c : List Int} {g : List VxD} {L : List Int} {w : Nat} (h : w ∈ outV c g L) : 0 < w ∧ w ≤ L.length ∧ hasV g L w = true := by
  have h1 := cm_mem dir_has h
  have h2 := (cm_last (has := hasV g L) (R := linkV g L) (dir := dirV c g L) (n := L.length)).1
  exact ⟨h1.1, by omega, h1.2.2⟩
theorem out_last {c : List Int} {g : List VxD} {L : List Int} {w : Nat} (h : (outV c g L).getLast? = some w) : dirV c g L w = true := by
  have hl := cm_last (has := hasV g L) (R := linkV g L) (dir := dirV c g L) (n := L.length)
  by_cases h0 : (cmW (hasV g L) (linkV g L) (dirV c g L) L.length).2 = 0
  · unfold outV at h
    rw [cm_no h0] at h
    cases h
  · have h1 := cm_getLast (has := hasV g L) (R := linkV g L) (dir := dirV c g L) (n := L.length) (by omega)
    unfold outV at h
    rw [h1] at h
    cases h
    exact hl.2 (by omega)
theorem out_dir {c : List Int} {g : List VxD} {L : List Int} {w : Nat} (h0 : 0 < w) (h1 : w ≤ L.length) (h : dirV c g L w = true) : w ∈ outV c g L := cm_dir h0 h1 h
end Go.Proofs.YtenflffikgfphaaDoor
