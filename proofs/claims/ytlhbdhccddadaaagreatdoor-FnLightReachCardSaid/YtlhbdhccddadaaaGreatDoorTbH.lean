/-
What the rows' condition on the listed tables and on errors.errorType gives a proof, and a start that meets it.
No conditions.
-/
import Derived.Test.YtlhbdhccddadaaaGreatDoorTbA
import Derived.Test.YtlhbdhccddadaaaGreatDoorAsD
import Derived.LaidHandle
import Derived.ChangeVars
namespace Go.Proofs.YtlhbdhccddadaaaGreatDoor
open Go Go.Vc Go.ChangeShapes Go.WideShapes Go.ChangeAt Go.RowKit Go.Joins
set_option maxRecDepth 100000
variable {P : Program}
/-- The entry of a call from outside: all that there is may be read, nothing is owned, some blocks are known. -/
def pinA (ps : List (Nat × Array Value)) : FA := ⟨fun f _ => (ps.getD f (0, #[])).1, ps.length⟩
def pinE (W : World) (ps : List (Nat × Array Value)) : Entry := ⟨W, fun b => b < W.heap.size, fun b => b < W.heap.size, 0, fun i => i, fun _ => False, pinA ps, false, []⟩
abbrev pinX (W : World) (ps : List (Nat × Array Value)) : Ctx := ctxOf (pinE W ps) (listH []) (pinE W ps).w0 (pinE W ps).ρ0 (pinE W ps).A0
def pinF (ps : List (Nat × Array Value)) : List Fam := ps.map fun p => ⟨some p.1, [p.2.toList.map .val]⟩
theorem pin_sat (W : World) {ps : List (Nat × Array Value)} (hg : ∀ p ∈ ps, (∃ T fr, W.heap[p.1]? = some (.cells p.2 T fr)) ∧ ∀ v ∈ p.2.toList, v.oneCell' = true) :
    SatW (pinE W ps) (listH []) (pinF ps) W (pinE W ps).ρ0 (pinE W ps).A0 := by
  have hd : ∀ k, listH [] k = .dead := fun k => rfl
  refine { os := rfl, tape := rfl, output := rfl, size := Nat.le_refl _, frame := fun _ _ _ => rfl, okB := fun b hb => ⟨hb, fun i hi => absurd hi (by simp [pinE])⟩, zB := fun b hb => ⟨hb, fun i hi => absurd hi (by simp [pinE])⟩,
           place := fun k hk => absurd (hd k) hk, inj := fun k _ hk => absurd (hd k) hk, stay := fun k cs hk => absurd hk (by simp [pinE]), fix := fun h => (by cases h), grow := fun h => (by cases h), pins := fun p hp => by simp [pinE] at hp, obj := fun k => by rw [hd k]; trivial, fl := by simp [pinF, pinE, pinA], nf := Nat.le_refl _, A0 := fun _ _ => rfl, fam := fun f fam hf => ?_ }
  unfold pinF at hf
  rw [List.getElem?_map] at hf
  obtain ⟨⟨g, vs⟩, hp, rfl⟩ := Option.map_eq_some_iff.1 hf
  obtain ⟨⟨T, fr, h0⟩, h1⟩ := hg _ (List.mem_of_getElem? hp)
  have hlt : g < W.heap.size := (Array.getElem?_eq_some_iff.1 h0).1
  have hat : ∀ i, (pinE W ps).A0.at_ f i = g := fun i => by
    show (ps.getD f (0, #[])).1 = g
    rw [List.getD_eq_getElem?_getD, hp]
    rfl
  refine ⟨fun i cs hi => ?_, fun i j hi hj _ => by simp at hi hj; omega, fun q hq => ?_⟩
  · cases i with
    | succ i => simp at hi
    | zero =>
      simp only [List.getElem?_cons_zero, Option.some.injEq] at hi
      subst hi
      refine ⟨.inl (by show (pinE W ps).A0.at_ f 0 < W.heap.size; rw [hat]; exact hlt), fun j => vs.toList.getD j undef, fun j a hj => ?_⟩
      rw [List.getElem?_map] at hj
      obtain ⟨v, hv, rfl⟩ := Option.map_eq_some_iff.1 hj
      have e : vs.toList.getD j undef = v := by simp [List.getD, hv]
      refine ⟨?_, rfl, ?_, ?_⟩
      rotate_left
      · show (vs.toList.getD j undef).oneCell' = true
        rw [e]; exact h1 v (List.mem_of_getElem? hv)
      · show RepV _ _ (vs.toList.getD j undef)
        rw [e]; exact .val v
      show W.cell? ⟨(pinE W ps).A0.at_ f 0, j, none⟩ = _
      rw [hat, cell_of_row W _ _ vs T fr h0]
      show vs[j]? = some (vs.toList.getD j undef)
      rw [e]
      simpa using hv
  · have hq : g = q := Option.some.inj hq
    subst hq
    refine ⟨hat 0, fun cs hcs => ?_⟩
    simp only [List.getElem?_cons_zero, Option.some.injEq] at hcs
    subst hcs
    exact ⟨vs, T, fr, h0, by simp⟩
theorem out_pin {W : World} {ps : List (Nat × Array Value)} {a : AV} {v : Value} (h : RepV (outC W) a v) (hp : pureA a = true) : RepV (pinX W ps) a v :=
  RepV.pure_move (c := outC W) (c' := pinX W ps) ⟨fun _ hb => hb, fun _ _ => rfl, fun _ hb => hb, fun _ _ => rfl, ⟨Nat.zero_le _, fun f hf => absurd hf (Nat.not_lt_zero f)⟩⟩ h hp
theorem calls_law_pin {f : FuncId} {con : Con} (hk : Keeps' P f con) {W : World} {ps : List (Nat × Array Value)} (hg : ∀ p ∈ ps, (∃ T fr, W.heap[p.1]? = some (.cells p.2 T fr)) ∧ ∀ v ∈ p.2.toList, v.oneCell' = true)
    {args : List Value} {aargs : List AV} {b : Bool} (hargs : RepA (outC W) aargs args) (hp : ∀ a ∈ aargs, pureA a = true) (hc : con.C aargs [] (pinF ps) fun r _ _ => r = B b) :
    Calls P f args.toArray W fun e W' => e = .returned (.bool b) ∧ Below W.heap.size W W' := by
  refine (hk (pinE W ps) args aargs [] (pinF ps) _ hc hargs.1 rfl (pin_sat W hg) (fun i a v ha hv => out_pin (hargs.2 i a v ha hv) (hp a (List.mem_of_getElem? ha))) (fun h => by cases h)).mono ?_
  rintro e W' ⟨v, r, hs, nF, ρ, A, rfl, rfl, hsat, hr, _⟩
  have hv : v = .bool b := by cases hr; rfl
  subst hv
  exact ⟨rfl, hsat.os, hsat.tape, hsat.output, hsat.size, fun k hk' => hsat.frame k hk' fun i hi => absurd hi (by simp [pinE])⟩

def tabsH : List (String × DataW Unit) := [("math/bits.deBruijn32tab", Rows.laid_math_bits_deBruijn32tab), ("math/bits.deBruijn64tab", Rows.laid_math_bits_deBruijn64tab), ("internal/strconv.uint64pow10", Rows.laid_internal_strconv_uint64pow10), ("errors.errorType", Rows.laid_errors_errorType)]
theorem et_glob : Tryz.prog.globalNamed "errors.errorType" = some 0 := by kernel_rfl
theorem et_rt : (Tryz.prog.cutTypes.find? (·.1 == "internal/reflectlite.rtype")).map (·.2) = some 128 := by kernel_rfl
theorem et_row : ((List.range 209).filter fun t => Tryz.prog.rowNamed t [101, 114, 114, 111, 114]) = [49] := by kernel_rfl
theorem et_size : Tryz.prog.types.size = 209 := by kernel_rfl
theorem tabsH_data : (tabsH.filter fun x => x.2.handleName?.isNone) = tabsL := by kernel_rfl
theorem tabsH_hdl : (tabsH.filter fun x => x.2.handleName?.isSome) = [("errors.errorType", Rows.laid_errors_errorType)] := by kernel_rfl
theorem laidH_out {W : World} (h : laidMetH Tryz.prog tabsH W) : laidMet Tryz.prog tabsL W ∧ handlesMet Tryz.prog [("errors.errorType", Rows.laid_errors_errorType)] W := by
  unfold laidMetH at h
  rw [tabsH_hdl] at h
  simp only [tabsH_data] at h
  exact h
theorem tabH_of_laid {W : World} (h : laidMetH Tryz.prog tabsH W) : laidMetH Tryz.prog tabsL W := by
  rw [MakeChecks.laidMetH_plain _ _ _ (by kernel_rfl)]
  exact (laidH_out h).1
theorem et_block {W : World} (h : laidMetH Tryz.prog tabsH W) : ∃ T fr, W.heap[0]? = some (.cells #[etHdl] T fr) := by
  obtain ⟨name, u, ty, e1, e2, e3, e4, e5⟩ := (laidH_out h).2 _ (List.mem_singleton.2 rfl)
  have en : name = [101, 114, 114, 111, 114] := (Option.some.inj e1).symm
  subst en
  obtain rfl := Option.some.inj (et_rt.symm.trans e2)
  have hm : ty ∈ (List.range 209).filter fun t => Tryz.prog.rowNamed t [101, 114, 114, 111, 114] := List.mem_filter.2 ⟨List.mem_range.2 (by rw [← et_size]; exact e3), e4⟩
  rw [et_row] at hm
  obtain rfl := List.mem_singleton.1 hm
  have hh : typeHandle Tryz.prog 49 = hdl 49 := by kernel_rfl
  rw [hh] at e5
  unfold World.var? at e5
  rw [et_glob] at e5
  simp only [Option.bind_some] at e5
  generalize W.heap[0]? = o at e5 ⊢
  match o, e5 with
  | some (.cells vs T fr), e5 =>
    simp only [Option.some.injEq] at e5
    exact ⟨T, fr, by rw [e5]⟩
def pinsH : List (Nat × Array Value) := [(1, (Lib.pow10Tab.map fun z => Value.int .u64 z).toArray), (0, #[etHdl])]
theorem pinsH_tab : hasTab (pinF pinsH) := by
  simp [pinF, pinsH, hasTab, pinOf, tabRow]
theorem pinsH_et : hasEt (pinF pinsH) := by
  simp [pinF, pinsH, hasEt, pinOf]
/-- A law's call where the tables and the handle are as the row lists them. -/
theorem calls_laidH {f : FuncId} {con : Con} (hk : Keeps' Tryz.prog f con) {W : World} (hL : laidMetH Tryz.prog tabsH W) {args : List Value} {aargs : List AV} {b : Bool} (hargs : RepA (outC W) aargs args) (hp : ∀ a ∈ aargs, pureA a = true)
    (hc : ∀ Fs, (hasTab Fs ∧ hasEt Fs) → con.C aargs [] Fs fun r _ _ => r = B b) :
    Calls Tryz.prog f args.toArray W fun e W' => e = .returned (.bool b) ∧ Below W.heap.size W W' := by
  refine calls_law_pin hk (ps := pinsH) (fun p hp => ?_) hargs hp (hc _ ⟨pinsH_tab, pinsH_et⟩)
  unfold pinsH at hp
  rcases List.mem_cons.1 hp with rfl | hp
  · exact ⟨tab_block (tab_of_laid (tabH_of_laid hL)), tab_one⟩
  · obtain rfl := List.mem_singleton.1 hp
    refine ⟨et_block hL, fun v hv => ?_⟩
    simp at hv
    subst hv
    rfl
noncomputable def w0H (os : Os) : World :=
  let w0 := World.holding Tryz.prog os ⟨#[], #[], []⟩
  { w0 with heap := w0.heap.modify 0 fun
      | .cells _ t frozen => .cells #[etHdl] t frozen
      | o => o }
noncomputable def wH (os : Os) : World := (w0H os).layVars Tryz.prog tabsL
theorem wH_os (os : Os) : (wH os).os = os := World.layVars_os _ _ _
theorem laidMet_lay0 {w0 : World} {laid : List (String × DataW Unit)} (hf : w0.layFits P laid [] = true) (hi : w0.layIfaces P laid (w0.layVars P laid) = true) : laidMet P laid (w0.layVars P laid) := by
  have e1 : (laid.filter fun x => (laid.map (·.1)).contains x.1) = laid := List.filter_eq_self.2 fun x hx => List.contains_iff_mem.2 (List.mem_map.2 ⟨x, hx, rfl⟩)
  have e2 : (laid.filter fun x => !(laid.map (·.1)).contains x.1) = [] := List.filter_eq_nil_iff.2 fun x hx => by rw [List.contains_iff_mem.2 (List.mem_map.2 ⟨x, hx, rfl⟩)]; simp
  exact laidMet_layVars (w0 := w0) (laid.map (·.1)) [] (by rw [e1]) (by rw [e1]; exact hf) (by rw [e1]; exact hi) (by rw [e2]; exact LaidIn.none)
theorem laid_startH (os : Os) (args : Array Value) : laidMetH Tryz.prog tabsH ((wH os).forCall (fun _ _ => 0) ⟨#[], args, []⟩).memory := by
  refine laidMetH_of_parts ?_ ?_
  · rw [tabsH_data]
    have h : laidMet Tryz.prog tabsL (wH os) := laidMet_lay0 (by kernel_rfl) (by kernel_rfl)
    exact h.of_heap (by simp [World.memory, World.forCall, Input.heap])
  · kernel_rfl
end Go.Proofs.YtlhbdhccddadaaaGreatDoor
