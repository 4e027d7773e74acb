/-
Parts of a graph that are closed under parents: what is kept of a graph by marks; such a part is valid.
No conditions.
-/
import Derived.Test.YtenflffikgfphaaDoorWbA
namespace Go.Proofs.YtenflffikgfphaaDoor
open Go Go.Vc
set_option maxHeartbeats 1000000
set_option maxRecDepth 10000
theorem sorted_of_pair {g : List VxD} (h : g.Pairwise VxD.lt) : sortedV g := by
  intro i j u v hij hu hv
  obtain ⟨h1, rfl⟩ := List.getElem?_eq_some_iff.1 hu
  obtain ⟨h2, rfl⟩ := List.getElem?_eq_some_iff.1 hv
  exact List.pairwise_iff_getElem.1 h i j h1 h2 hij
/-- The vertices of the first n that are marked. -/
def keepV (g : List VxD) (b : List Bool) (n : Nat) : List VxD := (((g.zip b).take n).filter fun x => x.2).map fun x => x.1
theorem keep_step {g : List VxD} {b : List Bool} {n : Nat} {v : VxD} {x : Bool} (hv : g[n]? = some v) (hx : b[n]? = some x) : keepV g b (n + 1) = keepV g b n ++ if x = true then [v] else [] := by
  have hz : (g.zip b)[n]? = some (v, x) := by
    rw [List.getElem?_zip_eq_some]
    exact ⟨hv, hx⟩
  unfold keepV
  rw [List.take_add_one, hz]
  cases x <;> simp
theorem keep_len {g : List VxD} {b : List Bool} {n : Nat} : (keepV g b n).length ≤ n := by
  unfold keepV
  rw [List.length_map]
  have h1 := List.length_filter_le (fun x : VxD × Bool => x.2) ((g.zip b).take n)
  have h2 := List.length_take_le n (g.zip b)
  omega
/-- Marks that are closed under parents from n on. -/
structure Vwn (g : List VxD) (b : List Bool) (n : Nat) : Prop where
  len : b.length = g.length
  closed : ∀ i, n ≤ i → b[i]? = some true → ∀ j ∈ parI g i, b[j]? = some true
theorem vwn_mark {g : List VxD} {b : List Bool} {m k : Nat} (h : Vwn g b (m + 1)) (hk : k ≤ m) : Vwn g (b.set k true) (m + 1) := by
  refine ⟨by rw [List.length_set]; exact h.len, fun i hi hb j hj => ?_⟩
  rcases set_out hb with hb | rfl
  · exact set_true (h.closed i hi hb j hj)
  · omega
theorem keep_mem {g : List VxD} {b : List Bool} {v : VxD} : v ∈ keepV g b g.length ↔ ∃ i : Nat, g[i]? = some v ∧ b[i]? = some true := by
  unfold keepV
  constructor
  · intro h
    obtain ⟨⟨u, x⟩, hx, rfl⟩ := List.mem_map.1 h
    obtain ⟨h1, h2⟩ := List.mem_filter.1 hx
    obtain ⟨i, hi⟩ := List.mem_iff_getElem?.1 (List.mem_of_mem_take h1)
    rw [List.getElem?_zip_eq_some] at hi
    have h2 : x = true := h2
    subst h2
    exact ⟨i, hi⟩
  · rintro ⟨i, hv, hb⟩
    refine List.mem_map.2 ⟨(v, true), List.mem_filter.2 ⟨?_, rfl⟩, rfl⟩
    have hz : (g.zip b)[i]? = some (v, true) := by
      rw [List.getElem?_zip_eq_some]
      exact ⟨hv, hb⟩
    have hi := (List.getElem?_eq_some_iff.1 hv).1
    have : ((g.zip b).take g.length)[i]? = some (v, true) := by
      rw [List.getElem?_take, if_pos hi]
      exact hz
    exact List.mem_of_getElem? this
theorem keep_sub {g : List VxD} {b : List Bool} (hl : b.length = g.length) : (keepV g b g.length).Sublist g := by
  have h1 : ((((g.zip b).take g.length).filter fun x => x.2).map fun x => x.1).Sublist ((g.zip b).map fun x => x.1) := ((List.filter_sublist).trans (List.take_sublist _ _)).map _
  have h2 : ((g.zip b).map fun x => x.1) = g := List.map_fst_zip (by omega)
  rw [h2] at h1
  exact h1
theorem keep_Sub {c : List Int} {g : List VxD} {b : List Bool} (hv : gV c g = true) (h : Vwn g b 0) : Sub (keepV g b g.length) g := by
  have hs : sortedV (keepV g b g.length) := sorted_of_pair ((pair_of_sorted (gV_sorted hv)).sublist (keep_sub h.len))
  refine ⟨fun v hm => (keep_sub h.len).subset hm, hs, fun v hm a ha => ?_⟩
  obtain ⟨i, hi, hb⟩ := keep_mem.1 hm
  obtain ⟨j, hj⟩ := ((gV_ok hv).par v (List.mem_of_getElem? hi)).2.2 a ha
  obtain ⟨u, hu, e1, e2⟩ := find_out hj
  have hbj := h.closed i (Nat.zero_le _) hb j (par_mem hi ha hj)
  have hum : u ∈ keepV g b g.length := keep_mem.2 ⟨j, hu, hbj⟩
  obtain ⟨k, hk⟩ := List.mem_iff_getElem?.1 hum
  have := find_at hs hk
  rw [e1, e2] at this
  exact ⟨k, this⟩
/-- A part that is closed under parents is valid, too. -/
theorem sub_gV {c : List Int} {g' g : List VxD} (hv : gV c g = true) (h : Sub g' g) : gV c g' = true := by
  unfold gV
  rw [gV_comV hv, Bool.true_and, List.all_eq_true]
  intro i hi
  have hil : i < g'.length := by simpa using hi
  have hvi : g'[i]? = some g'[i] := List.getElem?_eq_getElem hil
  have hmg : g'[i] ∈ g := h.mem _ (List.getElem_mem hil)
  obtain ⟨k, hk⟩ := List.mem_iff_getElem?.1 hmg
  obtain ⟨q1, _, _⟩ := gV_cell hv hk
  have q2 : parB g' g'[i] = true := by
    unfold parB
    rw [List.all_eq_true]
    intro a ha
    obtain ⟨j, hj⟩ := h.clo _ (List.getElem_mem hil) a ha
    rw [hj]
    rfl
  unfold gcell
  rw [hvi]
  dsimp only
  rw [q1, q2]
  have hp : g'[i - 1]? = some (g'[i - 1]'(by omega)) := List.getElem?_eq_getElem (by omega)
  rw [hp]
  dsimp only
  rcases Nat.eq_zero_or_pos i with e | e
  · subst e
    simp
  · have : ltB (g'[i - 1]'(by omega)) g'[i] = true := ltB_iff.2 (h.srt (i - 1) i _ _ (by omega) hp hvi)
    rw [this]
    simp
theorem keep_gV {c : List Int} {g : List VxD} {b : List Bool} (hv : gV c g = true) (h : Vwn g b 0) : gV c (keepV g b g.length) = true := sub_gV hv (keep_Sub hv h)
end Go.Proofs.YtenflffikgfphaaDoor
