/-
The order is short.
No conditions.
-/
import Derived.Test.YtkabnbjlglippaaGreatDoorOgB
import Derived.Test.YtkabnbjlglippaaGreatDoorOiX
namespace Go.Proofs.YtkabnbjlglippaaGreatDoor
open Go Go.Vc
theorem slotsO_small {c : List Int} {g : List VxD} {L : List Int} : (slotsO c g L).length ≤ 3255 := by
  cases e : okO c g L with
  | false => rw [okO_no e]; simp
  | true =>
    rw [slotsO_idx e, List.length_map]
    have h1 := ordV_len (g := g) (L := L) (W := outV c g L)
    have h2 := out_len15 (c := c) (g := g) (leaders_len (and2 e))
    have h3 := gV_len (and1 e)
    have h4 : (outV c g L).length * g.length ≤ 15 * 217 := Nat.mul_le_mul h2 h3
    omega
theorem digO_small {c : List Int} {g : List VxD} {L : List Int} : (digO c g L).length ≤ 3255 := by
  unfold digO
  rw [List.length_map]
  exact slotsO_small
theorem slotsP_small {c : List Int} {g : List VxD} {L : List Int} : (slotsP c g L).length ≤ 3255 := by
  unfold slotsP
  rw [List.length_map]
  exact slotsO_small
end Go.Proofs.YtkabnbjlglippaaGreatDoor
