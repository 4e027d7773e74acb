/-
Epochs among a law's arguments: what they are to the conditions.
No conditions.
-/
import Derived.Test.YtdljacpmoaeepaaDoorEvA
import Derived.Test.YtdljacpmoaeepaaDoorVcMG
import Derived.Lib.SmallJoins
namespace Go.Proofs.YtdljacpmoaeepaaDoor
open Go Go.Vc Go.ChangeShapes Go.WideShapes Go.ChangeAt Go.RowKit Go.Joins
set_option maxRecDepth 100000
theorem opn_int : Tryd.prog.cellsOf 3 = 1 := by kernel_rfl
theorem opn_ints : Tryd.prog.cellsOf 22 = 1 := by kernel_rfl
theorem opn_Epoch : Tryd.prog.cellsOf 24 = 4 := by kernel_rfl
variable {H : Type} {enc : TypeId × Value → H}
theorem cells_epoch {W : World} {fuel : Nat} {cs : List Value} {y : DataW H × List MemPlace} (h : DataW.trod enc Tryd.prog W 0 (fun _ => true) true fuel 24 cs = some y) (hlt : ∀ x ∈ y.2, x.block < W.heap.size) :
    ∃ (n : Int) (c k : List Int) (r : Int), RepL (outC W) [I n, .ints c, .ints k, I r] cs ∧ c.length ≤ 9223372036854775807 ∧ k.length ≤ 9223372036854775807 := by
  obtain ⟨xs, m, rfl, rfl, hcl, hxl, hel⟩ := DataW.trod_struct Tryd.underlying24 h
  rw [opn_Epoch] at hcl
  match cs, hcl, xs, hxl with
  | [c0, c1, c2, c3], _, [y0, y1, y2, y3], _ =>
    have h0 : DataW.trod enc Tryd.prog W 0 (fun _ => true) true m 3 (([c0, c1, c2, c3].drop 0).take (Tryd.prog.cellsOf 3)) = some y0 := hel 0 _ rfl
    have h1 : DataW.trod enc Tryd.prog W 0 (fun _ => true) true m 22 (([c0, c1, c2, c3].drop 1).take (Tryd.prog.cellsOf 22)) = some y1 := hel 1 _ rfl
    have h2 : DataW.trod enc Tryd.prog W 0 (fun _ => true) true m 22 (([c0, c1, c2, c3].drop 2).take (Tryd.prog.cellsOf 22)) = some y2 := hel 2 _ rfl
    have h3 : DataW.trod enc Tryd.prog W 0 (fun _ => true) true m 3 (([c0, c1, c2, c3].drop 3).take (Tryd.prog.cellsOf 3)) = some y3 := hel 3 _ rfl
    simp only [opn_int, opn_ints, List.drop_zero, List.drop_succ_cons, List.take_succ_cons, List.take_zero] at h0 h1 h2 h3
    obtain ⟨n, e0, _, _⟩ := DataW.trod_int Tryd.underlying3 h0
    obtain ⟨r, e3, _, _⟩ := DataW.trod_int Tryd.underlying3 h3
    obtain ⟨c, rc, lc, _⟩ := open_argInts Tryd.underlying22 Tryd.underlying3 opn_int h1 (fun x hx => hlt x (by simp [hx]))
    obtain ⟨k, rk, lk, _⟩ := open_argInts Tryd.underlying22 Tryd.underlying3 opn_int h2 (fun x hx => hlt x (by simp [hx]))
    simp only [List.cons.injEq, and_true] at e0 e3
    subst e0 e3
    exact ⟨n, c, k, r, rep_cons (.val _) rfl (rep_cons rc (ints_one rc) (rep_cons rk (ints_one rk) (rep_cons (.val _) rfl .nil))), lc, lk⟩
theorem open_epoch {W : World} {base : Nat} {v : Value} {d : DataW H} {p : List MemPlace} (hv : Value.okWide Tryd.prog W .any base 24 v) (h : DataW.Trod enc Tryd.prog W 0 (fun _ => true) true 24 v d p) (hlt : ∀ x ∈ p, x.block < W.heap.size) :
    ∃ (n : Int) (c k : List Int) (r : Int), RepV (outC W) (.agg [I n, .ints c, .ints k, I r]) v ∧ c.length ≤ 9223372036854775807 ∧ k.length ≤ 9223372036854775807 := by
  obtain ⟨cs, rfl, hsz⟩ := okWide_struct Tryd.underlying24 hv
  obtain ⟨fuel, hf⟩ := h
  obtain ⟨n, c, k, r, q1, q2, q3⟩ := cells_epoch hf hlt
  exact ⟨n, c, k, r, q1.agg, q2, q3⟩
end Go.Proofs.YtdljacpmoaeepaaDoor
