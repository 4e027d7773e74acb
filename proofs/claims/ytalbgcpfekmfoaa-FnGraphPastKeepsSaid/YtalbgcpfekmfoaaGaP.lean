/-
The past of a vertex is the same in the graph that it was added to, in plain Lean.
No conditions.
-/
import Derived.Test.YtalbgcpfekmfoaaGkG
import Derived.Test.YtalbgcpfekmfoaaGaB
namespace Go.Proofs.Ytalbgcpfekmfoaa
open Go Go.Vc
/-- The past, by places and by vertices. -/
theorem idx_pastX {g : List VxD} {s : Nat} : (idxT (pastV g s)).map (fun j => g.getD j ⟨0, 0, [], 0⟩) = pastX g s := by
  unfold idxT pastX
  rw [past_len]
  congr 1
  refine List.filter_congr fun j hj => ?_
  have hjl : j < g.length := by simpa using hj
  have hx : (pastV g s)[j]? = some ((pastV g s)[j]'(by rw [past_len]; exact hjl)) := List.getElem?_eq_getElem _
  have e : (pastV g s).getD j false = (pastV g s)[j]'(by rw [past_len]; exact hjl) := by rw [List.getD_eq_getElem?_getD, hx]; rfl
  have h := past_get hx
  rw [← e] at h
  by_cases hr : Reach g s j
  · rw [h.2 hr]
    simp [hr]
  · have : (pastV g s).getD j false = false := by
      cases hz : (pastV g s).getD j false
      · rfl
      · exact absurd (h.1 hz) hr
    rw [this]
    simp [hr]
theorem pastI_at {c : List Int} {g : List VxD} (hg : gV c g = true) {k : Nat} {v : VxD} (hv : g[k]? = some v) : pastI c g v.r v.a = natI (idxT (pastV g k)) := by
  unfold pastI
  rw [if_pos hg, find_at (gV_sorted hg) hv]
theorem pastN_len {g : List VxD} {s : Nat} : (natI (idxT (pastV g s))).length = (pastX g s).length := by
  rw [← idx_pastX]
  simp [natI]
theorem pastN_get {g : List VxD} {s i : Nat} {x : Int} (h : (natI (idxT (pastV g s)))[i]? = some x) : 0 ≤ x ∧ x < g.length ∧ ∃ u, g[x.toNat]? = some u ∧ (pastX g s)[i]? = some u := by
  unfold natI at h
  rw [List.getElem?_map] at h
  obtain ⟨j, hj, rfl⟩ := Option.map_eq_some_iff.1 h
  have hjl : j < g.length := by
    have := (List.mem_filter.1 (List.mem_of_getElem? hj)).1
    rw [past_len] at this
    simpa using this
  refine ⟨by omega, by omega, g[j], ?_, ?_⟩
  · rw [Int.toNat_natCast]
    exact List.getElem?_eq_getElem hjl
  · rw [← idx_pastX, List.getElem?_map, hj, Option.map_some]
    simp [List.getD, hjl]
/-- What GraphAdd makes of a graph when it adds. -/
structure Added (c : List Int) (g out : List VxD) (v : VxD) : Prop where
  g0 : gV c g = true
  g1 : gV c out = true
  len : out.length = g.length + 1
  sub : Sub g out
  mem : ∀ u ∈ out, u ∈ g ∨ u = v
  one : g = [] → out = [v] ∧ v.p = []
theorem add_done {c : List Int} {g : List VxD} {v : VxD} (h : (addI c g v).2 = 0) : Added c g (addI c g v).1 v := by
  unfold addI at h ⊢
  split at h
  case isFalse => cases h
  rename_i hc
  rw [if_pos hc]
  rw [Bool.and_eq_true] at hc
  obtain ⟨hg, hv⟩ := hc
  unfold addV at h ⊢
  cases hn : findV g v.r v.a with
  | some i =>
    rw [hn] at h
    dsimp only at h
    split at h <;> cases h
  | none =>
    rw [hn] at h
    dsimp only at h ⊢
    split at h
    case isFalse => cases h
    rename_i hp
    rw [if_pos hp]
    have pl := plc_place g v
    refine ⟨hg, ins_gV hg hv hp pl hn, ins_len pl.le, ins_sub hg, fun u hu => ins_mem.1 hu, ?_⟩
    rintro rfl
    have h0 : plcV [] v = 0 := rfl
    refine ⟨by rw [h0]; rfl, ?_⟩
    cases hq : v.p with
    | nil => rfl
    | cons x p =>
      unfold parB at hp
      rw [hq] at hp
      simp [findV] at hp
theorem past_same {c : List Int} {g out : List VxD} {v : VxD} (h : Added c g out v) {k : Nat} {u : VxD} (hu : g[k]? = some u) : ∃ j, out[j]? = some u ∧ pastX g k = pastX out j := by
  obtain ⟨j, hj⟩ := List.mem_iff_getElem?.1 (h.sub.mem u (List.mem_of_getElem? hu))
  exact ⟨j, hj, pastX_sub (gV_sorted h.g1) h.sub hu hj⟩
theorem past_alone {c : List Int} {g out : List VxD} {v : VxD} (h : Added c g out v) (hg : g = []) : (pastI c out v.r v.a).length = 1 := by
  obtain ⟨e, _⟩ := h.one hg
  have h1 := h.g1
  rw [e] at h1 ⊢
  rw [pastI_at (k := 0) (v := v) h1 rfl, pastN_len, pastX_one]
  rfl
end Go.Proofs.Ytalbgcpfekmfoaa
