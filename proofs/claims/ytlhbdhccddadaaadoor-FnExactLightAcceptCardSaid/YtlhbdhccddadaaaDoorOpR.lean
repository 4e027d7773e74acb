/-
Receipts among a law's arguments: what they are to the conditions.
No conditions.
-/
import Derived.Test.YtlhbdhccddadaaaDoorOpE
namespace Go.Proofs.YtlhbdhccddadaaaDoor
open Go Go.Vc Go.ChangeShapes Go.WideShapes Go.ChangeAt Go.RowKit Go.Joins
set_option maxRecDepth 100000
theorem opn_bool : Tryd.prog.cellsOf 4 = 1 := by kernel_rfl
theorem opn_Receipt : Tryd.prog.cellsOf 52 = 3 := by kernel_rfl
variable {H : Type} {enc : TypeId × Value → H}
theorem open_receipt {W : World} {base : Nat} {v : Value} {d : DataW H} {p : List MemPlace} (hv : Value.okWide Tryd.prog W .any base 52 v) (h : DataW.Trod enc Tryd.prog W 0 (fun _ => true) true 52 v d p) :
    ∃ (i : Int) (b : Bool) (g : Int), RepV (outC W) (.agg [I i, B b, I g]) v := by
  obtain ⟨cs, rfl, hsz⟩ := okWide_struct Tryd.underlying52 hv
  obtain ⟨fuel, hf⟩ := h
  obtain ⟨xs, m, rfl, hx, hcl, hxl, hel⟩ := DataW.trod_struct Tryd.underlying52 hf
  rw [opn_Receipt] at hcl
  obtain ⟨cs⟩ := cs
  match cs, hcl, xs, hxl with
  | [c0, c1, c2], _, [y0, y1, y2], _ =>
    have h0 : DataW.trod enc Tryd.prog W 0 (fun _ => true) true m 3 (([c0, c1, c2].drop 0).take (Tryd.prog.cellsOf 3)) = some y0 := hel 0 _ rfl
    have h1 : DataW.trod enc Tryd.prog W 0 (fun _ => true) true m 4 (([c0, c1, c2].drop 1).take (Tryd.prog.cellsOf 4)) = some y1 := hel 1 _ rfl
    have h2 : DataW.trod enc Tryd.prog W 0 (fun _ => true) true m 3 (([c0, c1, c2].drop 2).take (Tryd.prog.cellsOf 3)) = some y2 := hel 2 _ rfl
    simp only [opn_int, opn_bool, List.drop_zero, List.drop_succ_cons, List.take_succ_cons, List.take_zero] at h0 h1 h2
    obtain ⟨n, e0, _, _⟩ := DataW.trod_int Tryd.underlying3 h0
    obtain ⟨b, e1, _⟩ := DataW.trod_bool Tryd.underlying4 h1
    obtain ⟨g, e2, _, _⟩ := DataW.trod_int Tryd.underlying3 h2
    simp only [List.cons.injEq, and_true] at e0 e1 e2
    subst e0 e1 e2
    exact ⟨n, b, g, (rep_cons (.val _) rfl (rep_cons (.val _) rfl (rep_cons (.val _) rfl .nil))).agg⟩
end Go.Proofs.YtlhbdhccddadaaaDoor
