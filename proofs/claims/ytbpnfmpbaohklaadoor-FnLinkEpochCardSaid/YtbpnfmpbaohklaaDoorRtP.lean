/-
Made links are accepted; without its signers a link is not made: plain facts.
No conditions.
-/
import Derived.Test.YtbpnfmpbaohklaaDoorLmA
namespace Go.Proofs.YtbpnfmpbaohklaaDoor
open Go Go.Vc
set_option maxHeartbeats 1000000
set_option maxRecDepth 10000
theorem sum_key {c k : List Int} {d : Int} {g : List Int} (hg : g.length = c.length) (hk : k.length = c.length) : ∀ n : Nat, n ≤ c.length → sgnOk k d g n = true → (g.take n).sum * 5 % 997 = wgt k (sgnL g n) * (d + 1) % 997
  | 0, _, _ => by simp [sgnL, wgt]
  | n + 1, hn, h => by
    have hx : g[n]? = some g[n] := List.getElem?_eq_getElem (by omega)
    have hy : k[n]? = some k[n] := List.getElem?_eq_getElem (by omega)
    have h1 : sgnOk k d g n = true ∧ (decide (g.getD n 0 = 0) || sgV (k.getD n 0) d (g.getD n 0)) = true := by
      simp only [sgnOk, List.range_succ, List.all_append, Bool.and_eq_true] at h ⊢
      exact ⟨h.1, by simpa using h.2⟩
    have ih := sum_key hg hk n (by omega) h1.1
    rw [sum_take hx]
    by_cases hz : g[n] = 0
    · rw [sgnL_no hx hz, hz, Int.add_zero]
      exact ih
    · have h2 := h1.2
      rw [getD_of hx, getD_of hy, decide_eq_false hz, Bool.false_or] at h2
      simp only [sgV, Bool.and_eq_true] at h2
      have h3 : g[n] * 5 % 997 = k[n] * (d + 1) % 997 := by simpa [chkV] using h2.2.2.2
      rw [sgnL_yes hx hz]
      have e : wgt k (sgnL g n ++ [(n : Int)]) = wgt k (sgnL g n) + k[n] := by
        unfold wgt
        rw [List.map_append, List.sum_append_int]
        simp [List.getD, hy]
      rw [e, Int.add_mul, Int.add_mul, Int.add_emod, ih, h3, ← Int.add_emod]
theorem made_checked {c k : List Int} {d : Int} {g : List Int} (h : cmkV c k d g = true) : certV c k d (sgnL g c.length) (g.sum % 997) = true := by
  simp only [cmkV, Bool.and_eq_true, decide_eq_true_eq] at h
  obtain ⟨a1, a2, a3, a4, a5⟩ := h
  obtain ⟨b1, b2, b3, b4, b5, b6⟩ := keys_out a1
  have key := sum_key a3 b2 c.length (Nat.le_refl _) a4
  rw [List.take_of_length_le (by omega)] at key
  have e : chkV (wgt k (sgnL g c.length) % 997) d (g.sum % 997) = true := by
    unfold chkV
    rw [decide_eq_true_eq, Int.mul_emod (g.sum % 997), Int.emod_emod, ← Int.mul_emod, key, Int.mul_emod (wgt k _ % 997), Int.emod_emod, ← Int.mul_emod]
  have e2 : inR (g.sum % 997) 0 996 = true := by simp [inR]; omega
  rw [certV, a1, a2, sgnL_memV c g c.length (Nat.le_refl _), e2, decide_eq_true a5, e]
  rfl
theorem link_made {n : Int} {c k : List Int} {r n2 : Int} {c2 k2 : List Int} {r2 : Int} {s : List Int} (h : lmkV n c k r n2 c2 k2 r2 s = true) :
    lkV n c k r n2 c2 k2 r2 (digE n2 c2 k2 r2) (sgnL (sgnS (digE n2 c2 k2 r2) s) c.length) ((sgnS (digE n2 c2 k2 r2) s).sum % 997) = true := by
  simp only [lmkV, Bool.and_eq_true] at h
  obtain ⟨a1, a2, a3, a4, a5⟩ := h
  rw [lkV, a1, a2, a3, made_checked a5]
  simp
theorem signV_zero (d : Int) : signV 0 d = 0 := by simp [signV, inR]
theorem sgnS_get (d : Int) (s : List Int) (j : Nat) : (sgnS d s).getD j 0 = signV (s.getD j 0) d := by
  rcases Nat.lt_or_ge j s.length with hl | hl
  · simp [sgnS, List.getD, hl]
  · simp [sgnS, List.getD, hl, signV_zero]
theorem none_sign {d : Int} {s t : List Int} {n : Nat} (h2 : ∀ x ∈ sgnL (sgnS d s) n, t.getD x.toNat 0 = 0) (h3 : ∀ j, t.getD j 0 = s.getD j 0 ∨ t.getD j 0 = 0) : sgnL (sgnS d t) n = [] := by
  unfold sgnL
  rw [List.map_eq_nil_iff, List.filter_eq_nil_iff]
  intro j hj
  rw [List.mem_range] at hj
  rw [decide_eq_true_eq, Classical.not_not, sgnS_get]
  rcases h3 j with e | e
  · by_cases hz : signV (s.getD j 0) d = 0
    · rw [e]; exact hz
    · have : (j : Int) ∈ sgnL (sgnS d s) n := by
        simp only [sgnL, List.mem_map, List.mem_filter, List.mem_range, decide_eq_true_eq]
        exact ⟨j, ⟨hj, by rw [sgnS_get]; exact hz⟩, rfl⟩
      have := h2 _ this
      rw [Int.toNat_natCast] at this
      rw [this]; exact signV_zero d
  · rw [e]; exact signV_zero d
theorem none_made {n : Int} {c k : List Int} {r n2 : Int} {c2 k2 : List Int} {r2 : Int} {s t : List Int} (h2 : ∀ x ∈ sgnL (sgnS (digE n2 c2 k2 r2) s) c.length, t.getD x.toNat 0 = 0) (h3 : ∀ j, t.getD j 0 = s.getD j 0 ∨ t.getD j 0 = 0) :
    lmkV n c k r n2 c2 k2 r2 t = false := by
  have e := none_sign h2 h3
  unfold lmkV cmkV
  rw [e]
  cases a1 : keysV c k
  · simp
  obtain ⟨b1, b2, b3, b4, b5, b6⟩ := keys_out a1
  have hb := sum_bound c b5
  have : ¬ quo c ≤ wgt c [] := by
    have e0 : wgt c [] = 0 := rfl
    rw [e0]
    unfold quo
    omega
  simp [this]
theorem link_heavy {n : Int} {c k : List Int} {r n2 : Int} {c2 k2 : List Int} {r2 : Int} {s : List Int} (h : lmkV n c k r n2 c2 k2 r2 s = true) :
    comV c = true ∧ memV c (sgnL (sgnS (digE n2 c2 k2 r2) s) c.length) = true ∧ quo c ≤ wgt c (sgnL (sgnS (digE n2 c2 k2 r2) s) c.length) := by
  simp only [lmkV, cmkV, Bool.and_eq_true, decide_eq_true_eq] at h
  obtain ⟨a1, a2, a3, a4, a5, a6, a7, a8, a9⟩ := h
  obtain ⟨b1, b2, b3, b4, b5, b6⟩ := keys_out a5
  exact ⟨b1, sgnL_memV c _ c.length (Nat.le_refl _), a9⟩
theorem lkV_out {n : Int} {c k : List Int} {r n2 : Int} {c2 k2 : List Int} {r2 d : Int} {s : List Int} {m : Int} (h : lkV n c k r n2 c2 k2 r2 d s m = true) :
    EpV n c k r = true ∧ EpV n2 c2 k2 r2 = true ∧ n2 = n + 1 ∧ d = digE n2 c2 k2 r2 ∧ certV c k d s m = true := by
  simpa only [lkV, Bool.and_eq_true, decide_eq_true_eq] using h
theorem certV_out {c k : List Int} {d : Int} {s : List Int} {m : Int} (h : certV c k d s m = true) : keysV c k = true ∧ (0 ≤ d ∧ d ≤ 990) ∧ memV c s = true ∧ quo c ≤ wgt c s := by
  simp only [certV, Bool.and_eq_true, decide_eq_true_eq] at h
  obtain ⟨a1, a2, a3, a4, a5, a6⟩ := h
  exact ⟨a1, inR_out a2, a3, a5⟩
theorem link_other {n : Int} {c k : List Int} {r n2 : Int} {c2 k2 : List Int} {r2 d : Int} {s : List Int} {m : Int} (h : lkV n c k r n2 c2 k2 r2 d s m = true) {d' : Int} (hd : d' ≠ d) : lkV n c k r n2 c2 k2 r2 d' s m = false := by
  obtain ⟨a1, a2, a3, a4, a5⟩ := lkV_out h
  rw [lkV, a1, a2, decide_eq_true a3, decide_eq_false (by rw [← a4]; exact hd)]
  rfl
theorem link_far {n : Int} {c k : List Int} {r n2 : Int} {c2 k2 : List Int} {r2 d : Int} {s : List Int} {m : Int} (hn : n2 ≠ n + 1) : lkV n c k r n2 c2 k2 r2 d s m = false := by
  rw [lkV, decide_eq_false hn]
  simp
end Go.Proofs.YtbpnfmpbaohklaaDoor
