/-
From a contract to the call that a law's row asks for, where one variable of the program is known to hold a table.
No conditions.
-/
import Derived.Test.YtgfpcjomgmdapaaDoorVcLaw
namespace Go.Vc
open Go.RowKit Go.WideShapes Go.ChangeShapes
variable {P : Program} {H : Type} {enc : TypeId × Value → H}

/-- The entry of a call from outside: all that there is may be read, nothing is owned, block g is known. -/
def tabE (W : World) (g : Nat) : Entry := ⟨W, fun b => b < W.heap.size, fun b => b < W.heap.size, 0, fun i => i, fun _ => False, ⟨fun _ _ => g, 1⟩, false, []⟩
abbrev tabX (W : World) (g : Nat) : Ctx := ctxOf (tabE W g) (listH []) (tabE W g).w0 (tabE W g).ρ0 (tabE W g).A0
abbrev tabF (g : Nat) (vs : Array Value) : List Fam := [⟨some g, [vs.toList.map .val]⟩]
theorem tab_sat (W : World) {g : Nat} {vs : Array Value} {T : TypeId} {fr : Nat × Nat} (hg : W.heap[g]? = some (.cells vs T fr)) (h1 : ∀ v ∈ vs.toList, v.oneCell' = true) :
    SatW (tabE W g) (listH []) (tabF g vs) W (tabE W g).ρ0 (tabE W g).A0 := by
  have hd : ∀ k, listH [] k = .dead := fun k => rfl
  have hlt : g < W.heap.size := (Array.getElem?_eq_some_iff.1 hg).1
  refine { os := rfl, tape := rfl, output := rfl, size := Nat.le_refl _, frame := fun _ _ _ => rfl, okB := fun b hb => ⟨hb, fun i hi => absurd hi (by simp [tabE])⟩, zB := fun b hb => ⟨hb, fun i hi => absurd hi (by simp [tabE])⟩,
           place := fun k hk => absurd (hd k) hk, inj := fun k _ hk => absurd (hd k) hk, stay := fun k cs hk => absurd hk (by simp [tabE]), fix := fun h => (by cases h), grow := fun h => (by cases h), pins := fun p hp => by simp [tabE] at hp, obj := fun k => by rw [hd k]; trivial, fl := rfl, nf := Nat.le_refl _, A0 := fun _ _ => rfl, fam := fun f fam hf => ?_ }
  cases f with
  | succ f => simp at hf
  | zero =>
    simp only [tabF, List.getElem?_cons_zero, Option.some.injEq] at hf
    subst hf
    refine ⟨fun i cs hi => ?_, fun i j hi hj _ => by simp at hi hj; omega, fun p hp => ?_⟩
    · cases i with
      | succ i => simp at hi
      | zero =>
        simp only [List.getElem?_cons_zero, Option.some.injEq] at hi
        subst hi
        refine ⟨.inl hlt, fun j => vs.toList.getD j undef, fun j a hj => ?_⟩
        rw [List.getElem?_map] at hj
        obtain ⟨v, hv, rfl⟩ := Option.map_eq_some_iff.1 hj
        have e : vs.toList.getD j undef = v := by simp [List.getD, hv]
        refine ⟨?_, rfl, ?_, ?_⟩
        rotate_left
        · show (vs.toList.getD j undef).oneCell' = true
          rw [e]; exact h1 v (List.mem_of_getElem? hv)
        · show RepV _ _ (vs.toList.getD j undef)
          rw [e]; exact .val v
        show W.cell? ⟨g, j, none⟩ = _
        rw [cell_of_row W _ _ vs T fr hg]
        show vs[j]? = some (vs.toList.getD j undef)
        rw [e]
        simpa using hv
    · have hp : g = p := Option.some.inj hp
      subst hp
      refine ⟨rfl, fun cs hcs => ?_⟩
      simp only [List.getElem?_cons_zero, Option.some.injEq] at hcs
      subst hcs
      exact ⟨vs, T, fr, hg, by simp⟩
theorem out_tab {W : World} {g : Nat} {a : AV} {v : Value} (h : RepV (outC W) a v) (hp : pureA a = true) : RepV (tabX W g) a v :=
  RepV.pure_move (c := outC W) (c' := tabX W g) ⟨fun _ hb => hb, fun _ _ => rfl, fun _ hb => hb, fun _ _ => rfl, ⟨Nat.zero_le _, fun f hf => absurd hf (Nat.not_lt_zero f)⟩⟩ h hp
/-- A law's call, the table known. -/
theorem calls_law_tab {f : FuncId} {con : Con} (hk : Keeps' P f con) {W : World} {g : Nat} {vs : Array Value} {T : TypeId} {fr : Nat × Nat} (hg : W.heap[g]? = some (.cells vs T fr)) (h1 : ∀ v ∈ vs.toList, v.oneCell' = true)
    {args : List Value} {aargs : List AV} {b : Bool} (hargs : RepA (outC W) aargs args) (hp : ∀ a ∈ aargs, pureA a = true) (hc : con.C aargs [] (tabF g vs) fun r _ _ => r = B b) :
    Calls P f args.toArray W fun e W' => e = .returned (.bool b) ∧ Below W.heap.size W W' := by
  refine (hk (tabE W g) args aargs [] (tabF g vs) _ hc hargs.1 rfl (tab_sat W hg h1) (fun i a v ha hv => out_tab (hargs.2 i a v ha hv) (hp a (List.mem_of_getElem? ha))) (fun h => by cases h)).mono ?_
  rintro e W' ⟨v, r, hs, nF, ρ, A, rfl, rfl, hsat, hr, _⟩
  have hv : v = .bool b := by cases hr; rfl
  subst hv
  exact ⟨rfl, hsat.os, hsat.tape, hsat.output, hsat.size, fun k hk' => hsat.frame k hk' fun i hi => absurd hi (by simp [tabE])⟩
end Go.Vc
