/-
Links among a law's arguments: what they are to the conditions.
No conditions.
-/
import Derived.Test.YtdljacpmoaeepaaDoorOpE
import Derived.Test.YtdljacpmoaeepaaDoorVcMG
import Derived.Lib.SmallJoins
namespace Go.Proofs.YtdljacpmoaeepaaDoor
open Go Go.Vc Go.ChangeShapes Go.WideShapes Go.ChangeAt Go.RowKit Go.Joins
set_option maxRecDepth 100000
theorem opn_Cert : Tryd.prog.cellsOf 42 = 3 := by kernel_rfl
theorem opn_Link : Tryd.prog.cellsOf 44 = 7 := by kernel_rfl
variable {H : Type} {enc : TypeId × Value → H}
theorem cells_cert {W : World} {fuel : Nat} {cs : List Value} {y : DataW H × List MemPlace} (h : DataW.trod enc Tryd.prog W 0 (fun _ => true) true fuel 42 cs = some y) (hlt : ∀ x ∈ y.2, x.block < W.heap.size) :
    ∃ (d : Int) (s : List Int) (m : Int), RepL (outC W) [I d, .ints s, I m] cs ∧ s.length ≤ 9223372036854775807 := by
  obtain ⟨xs, m, rfl, rfl, hcl, hxl, hel⟩ := DataW.trod_struct Tryd.underlying42 h
  rw [opn_Cert] at hcl
  match cs, hcl, xs, hxl with
  | [c0, c1, c2], _, [y0, y1, y2], _ =>
    have h0 : DataW.trod enc Tryd.prog W 0 (fun _ => true) true m 3 (([c0, c1, c2].drop 0).take (Tryd.prog.cellsOf 3)) = some y0 := hel 0 _ rfl
    have h1 : DataW.trod enc Tryd.prog W 0 (fun _ => true) true m 22 (([c0, c1, c2].drop 1).take (Tryd.prog.cellsOf 22)) = some y1 := hel 1 _ rfl
    have h2 : DataW.trod enc Tryd.prog W 0 (fun _ => true) true m 3 (([c0, c1, c2].drop 2).take (Tryd.prog.cellsOf 3)) = some y2 := hel 2 _ rfl
    simp only [opn_int, opn_ints, List.drop_zero, List.drop_succ_cons, List.take_succ_cons, List.take_zero] at h0 h1 h2
    obtain ⟨d, e0, _, _⟩ := DataW.trod_int Tryd.underlying3 h0
    obtain ⟨m', e2, _, _⟩ := DataW.trod_int Tryd.underlying3 h2
    obtain ⟨s, rs, ls, _⟩ := open_argInts Tryd.underlying22 Tryd.underlying3 opn_int h1 (fun x hx => hlt x (by simp [hx]))
    simp only [List.cons.injEq, and_true] at e0 e2
    subst e0 e2
    exact ⟨d, s, m', rep_cons (.val _) rfl (rep_cons rs (ints_one rs) (rep_cons (.val _) rfl .nil)), ls⟩
theorem cells_link {W : World} {fuel : Nat} {cs : List Value} {y : DataW H × List MemPlace} (h : DataW.trod enc Tryd.prog W 0 (fun _ => true) true fuel 44 cs = some y) (hlt : ∀ x ∈ y.2, x.block < W.heap.size) :
    ∃ (n : Int) (c k : List Int) (r d : Int) (s : List Int) (m : Int), RepL (outC W) [I n, .ints c, .ints k, I r, I d, .ints s, I m] cs ∧ c.length ≤ 9223372036854775807 ∧ k.length ≤ 9223372036854775807 ∧ s.length ≤ 9223372036854775807 := by
  obtain ⟨xs, m, rfl, rfl, hcl, hxl, hel⟩ := DataW.trod_struct Tryd.underlying44 h
  rw [opn_Link] at hcl
  match xs, hxl with
  | [y0, y1], _ =>
    have h0 : DataW.trod enc Tryd.prog W 0 (fun _ => true) true m 24 ((cs.drop 0).take (Tryd.prog.cellsOf 24)) = some y0 := hel 0 _ rfl
    have h1 : DataW.trod enc Tryd.prog W 0 (fun _ => true) true m 42 ((cs.drop 4).take (Tryd.prog.cellsOf 42)) = some y1 := hel 1 _ rfl
    simp only [opn_Epoch, opn_Cert, List.drop_zero] at h0 h1
    obtain ⟨n, c, k, r, q1, q2, q3⟩ := cells_epoch h0 (fun x hx => hlt x (by simp [hx]))
    obtain ⟨d, s, m', q4, q5⟩ := cells_cert h1 (fun x hx => hlt x (by simp [hx]))
    refine ⟨n, c, k, r, d, s, m', ?_, q2, q3, q5⟩
    have q := q1.append q4
    have e : cs.take 4 ++ (cs.drop 4).take 3 = cs := by
      have e1 : (cs.drop 4).take 3 = cs.drop 4 := List.take_of_length_le (by simp; omega)
      rw [e1, List.take_append_drop]
    rw [e] at q
    exact q
theorem open_link {W : World} {base : Nat} {v : Value} {d : DataW H} {p : List MemPlace} (hv : Value.okWide Tryd.prog W .any base 44 v) (h : DataW.Trod enc Tryd.prog W 0 (fun _ => true) true 44 v d p) (hlt : ∀ x ∈ p, x.block < W.heap.size) :
    ∃ (n : Int) (c k : List Int) (r d : Int) (s : List Int) (m : Int), RepV (outC W) (.agg [I n, .ints c, .ints k, I r, I d, .ints s, I m]) v ∧ c.length ≤ 9223372036854775807 ∧ k.length ≤ 9223372036854775807 ∧ s.length ≤ 9223372036854775807 := by
  obtain ⟨cs, rfl, hsz⟩ := okWide_struct Tryd.underlying44 hv
  obtain ⟨fuel, hf⟩ := h
  obtain ⟨n, c, k, r, d, s, m, q1, q2, q3, q4⟩ := cells_link hf hlt
  exact ⟨n, c, k, r, d, s, m, q1.agg, q2, q3, q4⟩
end Go.Proofs.YtdljacpmoaeepaaDoor
