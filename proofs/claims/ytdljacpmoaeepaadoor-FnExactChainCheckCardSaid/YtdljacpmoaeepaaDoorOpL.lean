/-
Slices of links among a law's arguments: what they are to the conditions.
No conditions.
-/
import Derived.Test.YtdljacpmoaeepaaDoorOpA
import Derived.Test.YtdljacpmoaeepaaDoorLsA
import Derived.DataReads
import Derived.ChangeOld
import Derived.ChangeArms
namespace Go.Proofs.YtdljacpmoaeepaaDoor
open Go Go.Vc Go.ChangeShapes Go.WideShapes Go.ChangeAt Go.RowKit Go.Joins
set_option maxRecDepth 100000
variable {H : Type} {enc : TypeId × Value → H}
theorem pick_list {α : Type} {P : Nat → α → Prop} : ∀ {n : Nat}, (∀ i, i < n → ∃ x, P i x) → ∃ l : List α, l.length = n ∧ ∀ (i : Nat) x, l[i]? = some x → P i x
  | 0, _ => ⟨[], rfl, by simp⟩
  | n + 1, h => by
    obtain ⟨l, hl, hp⟩ := pick_list (P := P) (n := n) fun i hi => h i (by omega)
    obtain ⟨x, hx⟩ := h n (by omega)
    refine ⟨l ++ [x], by simp [hl], fun i y hy => ?_⟩
    by_cases hi : i < l.length
    · rw [List.getElem?_append_left hi] at hy
      exact hp i y hy
    · rw [List.getElem?_append_right (by omega)] at hy
      have e : i = n := by
        have := (List.getElem?_eq_some_iff.1 hy).1
        simp at this
        omega
      subst e
      rw [hl, Nat.sub_self] at hy
      simp at hy
      subst hy
      exact hx
theorem add_at (b off k j : Nat) : ((⟨b, off, none⟩ : Addr).add k).add j = ⟨b, off + k + j, none⟩ := by
  simp only [Addr.add]
  split <;> split <;> simp_all <;> omega
theorem open_links {W : World} {base : Nat} {v : Value} {d : DataW H} {p : List MemPlace} (hv : Value.okWide Tryd.prog W .any base 25 v) (h : DataW.Trod enc Tryd.prog W 0 (fun _ => true) true 25 v d p) (hlt : ∀ x ∈ p, x.block < W.heap.size) :
    ∃ ls : List LkD, RepV (outC W) (.sl 7 (ls.map LkD.row)) v ∧ (∀ x ∈ ls, x.big) ∧ ls.length ≤ 9223372036854775807 := by
  obtain ⟨a, len, cap, rfl⟩ := okWide_slice Tryd.underlying25 hv
  obtain ⟨fuel, hf⟩ := h
  rcases DataW.trod_slice Tryd.underlying25 hf with ⟨hcs, _⟩ | ⟨a', len', cap', elems, rest, n, _, hcs, hx, _, hl, hm, hlen, hel, _⟩
  · cases hcs
    exact ⟨[], .sl0 7 _ _, by simp, by simp⟩
  · cases hcs
    have hp : ∀ y ∈ elems, ∀ q ∈ y.2, q ∈ p := by
      intro y hy q hq
      have e : p = MemPlace.row a' ((elems.length + rest.length) * Tryd.prog.cellsOf 44) ++ (elems ++ rest).flatMap (·.2) := (Prod.mk.inj hx).2
      rw [e]
      exact List.mem_append_right _ (List.mem_flatMap.2 ⟨y, List.mem_append_left _ hy, hq⟩)
    have key : ∀ i, i < len → ∃ x : LkD, x.big ∧ ∃ cs, W.cells? 0 (a'.add (i * 7)) 7 = some cs ∧ RepL (outC W) x.row cs := by
      intro i hi
      have h1 := hel i hi
      rw [opn_Link] at h1
      obtain ⟨y, hy⟩ : ∃ y, elems[i]? = some y := ⟨_, List.getElem?_eq_getElem (by omega)⟩
      rw [hy] at h1
      cases hc : W.cells? 0 (a'.add (i * 7)) 7 with
      | none => rw [hc] at h1; cases h1
      | some cs =>
        rw [hc] at h1
        obtain ⟨n', c, k, r, d', s, m, q1, q2, q3, q4⟩ := cells_link (y := y) h1 (fun q hq => hlt q (hp y (List.mem_of_getElem? hy) q hq))
        exact ⟨⟨⟨n', c, k, r⟩, d', s, m⟩, ⟨q2, q3, q4⟩, cs, rfl, q1⟩
    obtain ⟨ls, hll, hP⟩ := pick_list key
    have hm2 : len ≤ 9223372036854775807 := by
      unfold maxLen at hm
      omega
    refine ⟨ls, ?_, fun x hx => ?_, by omega⟩
    · by_cases h0 : len = 0
      · subst h0
        obtain rfl : ls = [] := List.eq_nil_of_length_eq_zero hll
        exact .sl0 7 _ _
      · obtain ⟨x0, -, cs0, hc0, -⟩ := key 0 (by omega)
        have hb := World.cells?_block hc0 (by decide)
        obtain ⟨-, hcl, hcc⟩ := World.cells?_some hc0
        obtain ⟨b, off, sp⟩ := a'
        have hsp : sp = none := by
          have h1 := hcc 0 (by decide)
          have h2 : cs0[0]? = some (cs0[0]'(by omega)) := List.getElem?_eq_getElem (by omega)
          rw [h2] at h1
          simp only [Addr.add, if_true, Nat.zero_mul, World.cell?] at h1
          cases sp with
          | none => rfl
          | some x => split at h1 <;> simp at h1
        subst hsp
        have hb : b < W.heap.size := hb
        have hlm : (ls.map LkD.row).length = len := by simp [hll]
        have hrow : ∀ (i : Nat) e, (ls.map LkD.row)[i]? = some e → ∃ cs, W.cells? 0 ((⟨b, off, none⟩ : Addr).add (i * 7)) 7 = some cs ∧ RepL (outC W) e cs := by
          intro i e he
          obtain ⟨x, hx, rfl⟩ := lks_at he
          obtain ⟨_, cs, h1, h2⟩ := hP i x hx
          exact ⟨cs, h1, h2⟩
        have hat : ∀ (i : Nat) e (j : Nat) x, (ls.map LkD.row)[i]? = some e → e[j]? = some x → ∃ u, ((W.cells? 0 ((⟨b, off, none⟩ : Addr).add (i * 7)) 7).getD []).getD j undef = u ∧ W.cell? ⟨b, off + i * 7 + j, none⟩ = some u ∧ u.oneCell' = true ∧ RepV (outC W) x u := by
          intro i e j x he hj
          obtain ⟨cs, h1, h2⟩ := hrow i e he
          obtain ⟨u, h3, h4, h5⟩ := h2.get hj
          refine ⟨u, ?_, ?_, h4, h5⟩
          · rw [h1]
            simp [List.getD, h3]
          · obtain ⟨_, q1, q2⟩ := World.cells?_some h1
            have hj7 : j < 7 := by
              have := (List.getElem?_eq_some_iff.1 h3).1
              omega
            have q3 := q2 j hj7
            rw [add_at, h3] at q3
            exact q3
        have := RepV.sl (c := outC W) 7 (ls.map LkD.row) b off cap (fun i j => ((W.cells? 0 ((⟨b, off, none⟩ : Addr).add (i * 7)) 7).getD []).getD j undef) (.inl hb) (by rw [hlm]; exact hl) (fun i e he => ?_) (fun i e j x he hj => ?_) (fun i e j x he hj => ?_)
        · rw [hlm] at this
          exact this
        · obtain ⟨x, _, rfl⟩ := lks_at he
          rfl
        · obtain ⟨u, e1, e2, e3, _⟩ := hat i e j x he hj
          rw [e1]
          refine ⟨e2, ?_, e3⟩
          obtain ⟨y, _, rfl⟩ := lks_at he
          have hm := List.mem_of_getElem? hj
          simp only [LkD.row, List.mem_cons, List.not_mem_nil, or_false] at hm
          rcases hm with rfl | rfl | rfl | rfl | rfl | rfl | rfl <;> rfl
        · obtain ⟨u, e1, _, _, e4⟩ := hat i e j x he hj
          rw [e1]
          exact e4
    · obtain ⟨i, hi⟩ := List.mem_iff_getElem?.1 hx
      exact (hP i x hi).1
end Go.Proofs.YtdljacpmoaeepaaDoor
