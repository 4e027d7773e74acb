/-
Links of a drawn size.
No conditions.
-/
import Derived.Test.YtlhbdhccddadaaaGreatDoorChP
namespace Go.Proofs.YtlhbdhccddadaaaGreatDoor
open Go Go.Vc
def LkD.fits (x : LkD) : Prop := x.e.c.length ≤ 30 ∧ x.e.k.length ≤ 30 ∧ x.s.length ≤ 30
theorem LkD.fits_small {x : LkD} (h : x.fits) : x.small := by
  obtain ⟨h1, h2, h3⟩ := h
  exact ⟨⟨by omega, by omega⟩, by omega⟩
end Go.Proofs.YtlhbdhccddadaaaGreatDoor
