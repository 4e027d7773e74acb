/-
A slice of vertices as it is filled.
No conditions.
-/
import Derived.Test.YtalbgcpfekmfoaaPlA
namespace Go.Proofs.Ytalbgcpfekmfoaa
open Go Go.Vc
def vzrow : List AV := [I 0, I 0, .val (.slice none 0 0), I 0]
def vxTo (g : List VxD) (i : Nat) : List (List AV) := (g.take i).map VxD.row ++ List.replicate (g.length - i) vzrow
theorem vxTo_at {g : List VxD} {i : Nat} {e : List AV} (hi : i < g.length) (h : (vxTo g i)[i]? = some e) : e = vzrow := by
  unfold vxTo at h
  have e1 : ((g.take i).map VxD.row).length = i := by simp; omega
  rw [List.getElem?_append_right (by omega), e1, Nat.sub_self, List.getElem?_replicate] at h
  split at h
  · exact (Option.some.inj h).symm
  · cases h
theorem vxTo_set {g : List VxD} {i : Nat} {x : VxD} (hx : g[i]? = some x) : (vxTo g i).set i x.row = vxTo g (i + 1) := by
  obtain ⟨hi, _⟩ := List.getElem?_eq_some_iff.1 hx
  have e : g.length - i = (g.length - (i + 1)) + 1 := by omega
  have e1 : ((g.take i).map VxD.row).length = i := by simp; omega
  unfold vxTo
  rw [List.set_append, if_neg (by omega), List.take_add_one, hx, e, List.replicate_succ, e1]
  simp
theorem vxTo_len {g : List VxD} {i : Nat} (hi : i ≤ g.length) : (vxTo g i).length = g.length := by
  unfold vxTo
  simp
  omega
theorem vxTo_all (g : List VxD) : vxTo g g.length = g.map VxD.row := by
  simp [vxTo]
theorem vxTo_zero (g : List VxD) (n : Nat) (h : n = g.length) : vxTo g 0 = List.replicate n vzrow := by
  simp [vxTo, h]
end Go.Proofs.Ytalbgcpfekmfoaa
