/-
What the sorted row of a voter's map is, in plain Lean.
No conditions.
-/
import Derived.Test.YtalbgcpfekmfoaaVpP
namespace Go.Proofs.Ytalbgcpfekmfoaa
open Go Go.Vc
theorem nodup_of_len : ∀ {X Y : List VtD}, Y.Nodup → (∀ u ∈ Y, u ∈ X) → X.length ≤ Y.length → X.Nodup
  | [], _, _, _, _ => List.nodup_nil
  | x :: X, Y, hy, hs, hl => by
    rw [List.nodup_cons]
    have hl : X.length + 1 ≤ Y.length := by simpa using hl
    have hx : x ∉ X := by
      intro hx
      have := hy.length_le_of_subset (l₂ := X) fun u hu => by
        rcases List.mem_cons.1 (hs u hu) with rfl | h
        · exact hx
        · exact h
      omega
    have hxy : x ∈ Y := by
      refine Classical.byContradiction fun hn => ?_
      have := hy.length_le_of_subset (l₂ := X) fun u hu => by
        rcases List.mem_cons.1 (hs u hu) with rfl | h
        · exact absurd hu hn
        · exact h
      omega
    refine ⟨hx, nodup_of_len (Y := Y.erase x) (hy.erase x) (fun u hu => ?_) ?_⟩
    · have h1 : u ∈ Y := List.mem_of_mem_erase hu
      rcases List.mem_cons.1 (hs u h1) with rfl | h
      · exact absurd hu (hy.not_mem_erase)
      · exact h
    · rw [List.length_erase_of_mem hxy]
      omega
theorem same_eq {l : List VtD} (hs : sortedT l) {u v : VtD} (hu : u ∈ l) (hv : v ∈ l) (h : sameS u v = true) : u = v := by
  obtain ⟨i, hi⟩ := List.mem_iff_getElem?.1 hu
  obtain ⟨j, hj⟩ := List.mem_iff_getElem?.1 hv
  rcases Nat.lt_trichotomy i j with h1 | h1 | h1
  · rw [lt_notsame (hs i j u v h1 hi hj)] at h
    cases h
  · subst h1
    rw [hi] at hj
    cases hj
    rfl
  · rw [gt_notsame (hs j i v u h1 hj hi)] at h
    cases h
theorem sorted_nodup {l : List VtD} (hs : sortedT l) : l.Nodup := (sorted_pair hs).imp fun h e => by
  subst e
  exact VtD.lt_irrefl h
theorem sort_ins {l ts : List VtD} {v : VtD} (hs : sortedT l) (hn : ∀ u ∈ l, sameS u v = false) (hp : ts.Pairwise fun x y => ¬ y.lt x) (hlen : ts.length = (l ++ [v]).length) (hm : ∀ u, u ∈ ts ↔ u ∈ l ++ [v]) : ts = insT l v := by
  have hv : v ∉ l := fun h => by
    have := hn v h
    rw [sameS_iff.2 ⟨rfl, rfl⟩] at this
    cases this
  have hnd : (l ++ [v]).Nodup := by
    rw [List.nodup_append]
    refine ⟨sorted_nodup hs, by simp, fun a ha b hb => ?_⟩
    rw [List.mem_singleton.1 hb]
    rintro rfl
    exact hv ha
  have hnt : ts.Nodup := nodup_of_len hnd (fun u hu => (hm u).2 hu) (by omega)
  have hall : ∀ x y, x ∈ ts → y ∈ ts → sameS x y = true → x = y := by
    intro x y hx hy h
    have hx := (hm x).1 hx
    have hy := (hm y).1 hy
    rcases List.mem_append.1 hx with hx | hx <;> rcases List.mem_append.1 hy with hy | hy
    · exact same_eq hs hx hy h
    · rw [List.mem_singleton.1 hy, hn x hx] at h
      cases h
    · rw [List.mem_singleton.1 hx] at h
      have h2 := hn y hy
      have h3 := sameS_iff.1 h
      rw [sameS_iff.2 ⟨h3.1.symm, h3.2.symm⟩] at h2
      cases h2
    · rw [List.mem_singleton.1 hx, List.mem_singleton.1 hy]
  refine ltT_ext ?_ (ins_pairT hs hn) fun u => ?_
  · rw [List.pairwise_iff_getElem] at hp ⊢
    intro i j hi hj hij
    refine Classical.byContradiction fun h1 => ?_
    have h2 := hall _ _ (List.getElem_mem hi) (List.getElem_mem hj) (same_of h1 (hp i j hi hj hij))
    have h3 : ts[i]? = ts[j]? := (List.getElem?_eq_getElem hi).trans ((congrArg some h2).trans (List.getElem?_eq_getElem hj).symm)
    have := (List.getElem?_inj hi hnt).1 h3
    omega
  · rw [hm, ins_memT]
    simp
end Go.Proofs.Ytalbgcpfekmfoaa
