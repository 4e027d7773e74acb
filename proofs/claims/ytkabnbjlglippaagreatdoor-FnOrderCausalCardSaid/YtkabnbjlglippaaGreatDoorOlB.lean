/-
What the laws on the order share.
No conditions.
-/
import Derived.Test.YtkabnbjlglippaaGreatDoorOlA
import Derived.Test.YtkabnbjlglippaaGreatDoorOgB
import Derived.Test.YtkabnbjlglippaaGreatDoorOiX
import Derived.Test.YtkabnbjlglippaaGreatDoorOdA
import Derived.Test.YtkabnbjlglippaaGreatDoorWbX
namespace Go.Proofs.YtkabnbjlglippaaGreatDoor
open Go Go.Vc
def c_ordLaw : Con := ⟨0, 0, false, fun xs hs Fs K => match xs with
  | [.bytes b] => hs = [] ∧ ∃ p0 p1 p2, hasErr Fs p0 p1 p2 ∧ b.length ≤ 9223372036854775807 ∧ K (B true) [] []
  | _ => False⟩
def c_ordLaw2 : Con := ⟨0, 0, false, fun xs hs Fs K => match xs with
  | [.bytes b, .bytes b2] => hs = [] ∧ ∃ p0 p1 p2, hasErr Fs p0 p1 p2 ∧ b.length ≤ 9223372036854775807 ∧ b2.length ≤ 9223372036854775807 ∧ K (B true) [] []
  | _ => False⟩
variable {c : List Int} {g : List VxD} {L : List Int}
theorem slotsO_len : (slotsO c g L).length ≤ 15 * g.length := by
  cases e : okO c g L with
  | false => rw [okO_no e]; simp
  | true =>
    rw [slotsO_idx e, List.length_map]
    have h1 := ordV_len (g := g) (L := L) (W := outV c g L)
    have h2 := out_len15 (c := c) (g := g) (leaders_len (and2 e))
    exact Nat.le_trans h1 (Nat.mul_le_mul_right _ h2)
theorem slotsP_len : (slotsP c g L).length ≤ 15 * g.length := by
  rw [slotsP, List.length_map]
  exact slotsO_len
theorem slotsP_map : ((slotsP c g L).map pR).length = (slotsP c g L).length := List.length_map ..
theorem digO_len : (digO c g L).length = (slotsP c g L).length := by simp [digO, slotsP]
/-- The i-th of the order: its index, its wave, its place. -/
theorem slotsP_at {i : Nat} (h : i < (slotsP c g L).length) : ∃ (k w : Nat) (v : VxD), okO c g L = true ∧ (ordV g L (outV c g L))[i]? = some (k, w) ∧ g[k]? = some v ∧ wvV g L (outV c g L) k = w ∧ w ∈ outV c g L ∧ (slotsP c g L)[i]? = some (v.r, v.a) ∧ (slotsO c g L)[i]? = some v := by
  cases e : okO c g L with
  | false =>
    rw [slotsP, okO_no e] at h
    simp at h
  | true =>
    have e1 := slotsO_idx e
    have e2 : slotsP c g L = ((ordV g L (outV c g L)).map (fun p => p.1)).map fun k => sP (gAt g k) := by rw [slotsP, e1, List.map_map]; rfl
    have hl : i < (ordV g L (outV c g L)).length := by rw [e2] at h; simpa using h
    obtain ⟨k, w, hkw⟩ : ∃ k w, (ordV g L (outV c g L))[i]? = some (k, w) := ⟨_, _, List.getElem?_eq_getElem hl⟩
    obtain ⟨h1, h2, h3⟩ := ord_mem.1 (List.mem_of_getElem? hkw)
    refine ⟨k, w, gAt g k, rfl, hkw, gAt_get h2, h3, h1, ?_, ?_⟩
    · rw [e2]
      simp [hkw, sP]
    · rw [e1]
      simp [hkw]
theorem slots_gV (h : okO c g L = true) : gV c g = true := and1 h
theorem slots_mem (h : okO c g L = true) {r a : Int} : (r, a) ∈ slotsP c g L ↔ ∃ k v, g[k]? = some v ∧ v.r = r ∧ v.a = a ∧ wvV g L (outV c g L) k ∈ outV c g L := by
  constructor
  · intro hm
    obtain ⟨i, hi⟩ := List.mem_iff_getElem?.1 hm
    obtain ⟨k, w, v, _, _, h3, h4, h5, h6, _⟩ := slotsP_at (List.getElem?_eq_some_iff.1 hi).1
    rw [hi] at h6
    cases h6
    exact ⟨k, v, h3, rfl, rfl, by rw [h4]; exact h5⟩
  · rintro ⟨k, v, hv, rfl, rfl, hw⟩
    have hm : (k, wvV g L (outV c g L) k) ∈ ordV g L (outV c g L) := ord_mem.2 ⟨hw, (List.getElem?_eq_some_iff.1 hv).1, rfl⟩
    rw [slotsP, slotsO_idx h]
    refine List.mem_map.2 ⟨v, List.mem_map.2 ⟨k, List.mem_map.2 ⟨_, hm, rfl⟩, gAt_of hv⟩, rfl⟩
theorem out_pos : ∀ w ∈ outV c g L, 0 < w := fun _ hw => (out_mem hw).1
theorem slots_ne (h : 0 < (slotsP c g L).length) : okO c g L = true := by
  obtain ⟨_, _, _, e, _⟩ := slotsP_at h
  exact e
/-- The i-th committed wave. -/
theorem wavI_pos {i : Nat} (h : i < (wavI c g L).length) : ∃ n k : Nat, ∃ v : VxD, (wavI c g L)[i]? = some (n : Int) ∧ (outV c g L)[i]? = some n ∧ 1 ≤ n ∧ n ≤ L.length ∧ leadV g L n = some k ∧ g[k]? = some v ∧ v.r = 2 * (n : Int) - 1 ∧ v.a = L.getD (n - 1) 0 ∧ L[n - 1]? = some v.a ∧ okO c g L = true := by
  have hok : okO c g L = true := by
    cases e : (gV c g && leadersV c L) with
    | true => exact e
    | false =>
      rw [wavI, e] at h
      simp at h
  rw [wavI_ok hok] at h ⊢
  have h2 : i < (outV c g L).length := by simpa using h
  have hm := out_mem (List.getElem_mem h2)
  obtain ⟨k, hk⟩ := has_lead hm.2.2
  obtain ⟨v, hv, hr, ha, _⟩ := lead_at hk
  have hl := (lead_out hk).2.1
  exact ⟨(outV c g L)[i], k, v, by simp [h2], by simp [h2], hm.1, hm.2.1, hk, hv, hr, ha, by rw [ha]; exact hl, hok⟩
end Go.Proofs.YtkabnbjlglippaaGreatDoor
