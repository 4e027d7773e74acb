/-
errors.Is at nil and at the sentinel itself; slices.BinarySearch, Reverse and Contains as the program uses them.
No conditions.
-/
import Derived.Test.YtkabnbjlglippaaGreatDoorWiX
import Derived.WalkKit
import Derived.LaidEql
import Derived.Stop.Asserts
import Derived.RowKitTokens
namespace Go.Proofs.YtkabnbjlglippaaGreatDoor
open Go Go.Vc Go.RowKit Go.Extern.Stop Go.Stop Go.Extern
set_option maxRecDepth 100000
set_option maxHeartbeats 2000000
theorem is_typeOf (v : Value) (w : World) : (Extern.ReflectliteType.typeOf #[.iface 158 v]).run Tryz.prog w = .ok (.iface 148 (.agg #[.pointer (some ⟨3, 158, none⟩)])) w := by kernel_rfl
theorem is_comparable (w : World) : ((Extern.ReflectliteType.method fun t => do Extern.Rtype.noPackHeld "Comparable" t; pure (.bool (← typeInfo t).comparable)) #[.agg #[.pointer (some ⟨3, 158, none⟩)]]).run Tryz.prog w = .ok (.bool true) w := by kernel_rfl
theorem is_callComparable (w : World) : (callFunc 152 #[.agg #[.pointer (some ⟨3, 158, none⟩)]]).run Tryz.prog w = .ok (.value (.bool true)) w := by
  rw [@run_callFunc_extern Tryz.prog 152 _ (Extern.ReflectliteType.method fun t => do Extern.Rtype.noPackHeld "Comparable" t; pure (.bool (← typeInfo t).comparable)) Tryz.func152 (by kernel_rfl) (by kernel_rfl) (by kernel_rfl) (by kernel_rfl), is_comparable]
  rfl
theorem is_mComparable (v : Value) (w : World) : (Go.method 295 148 v "Comparable").run Tryz.prog w = .ok (152, v) w := by kernel_rfl
theorem is_comp : (Tryz.prog.info? 158).map (·.comparable) = some true := by kernel_rfl
theorem is_size : (Tryz.prog.info? 183).map (·.size) = some 1 := by kernel_rfl
/-- errors.Is(x, x), x a sentinel. -/
theorem is_same (a : Addr) (w : World) :
    Calls Tryz.prog 110 #[.iface 158 (.pointer (some a)), .iface 158 (.pointer (some a))] w fun e w' => e = .returned (.bool true) ∧ w' = w := by
  obtain ⟨i, hi, hcmp⟩ := Option.map_eq_some_iff.1 is_comp
  obtain ⟨j, hj, hjs⟩ := Option.map_eq_some_iff.1 is_size
  have h8 := @run_callFunc_extern Tryz.prog 120 _ Extern.ReflectliteType.typeOf Tryz.func120 (by kernel_rfl) (by kernel_rfl) (by kernel_rfl) (by kernel_rfl)
  have h32 := is_callComparable
  have tT := is_typeOf
  have mR := is_mComparable
  have heq := run_eql_iface_ptr_same (P := Tryz.prog) w a Tryz.underlying66 Tryz.underlying158 hi hcmp hj
  go_enter Tryz.func110, Tryz.ntmps110
  go_wp2
  refine wp_loop_rounds 1 ?_
  rw [rounds_succ]
  go_wp2
  go_ret
  exact ⟨rfl, rfl⟩
/-- errors.Is(nil, x). -/
theorem is_nil (b : Addr) (w : World) :
    Calls Tryz.prog 110 #[.nilIface, .iface 158 (.pointer (some b))] w fun e w' => e = .returned (.bool false) ∧ w' = w := by
  have hn := run_eql_iface_nil_left (P := Tryz.prog) w 158 (.pointer (some b)) Tryz.underlying66
  go_enter Tryz.func110, Tryz.ntmps110
  go_wp2
  go_ret
  exact ⟨rfl, rfl⟩
theorem satW_bel {E : Entry} {Fs : List Fam} {w' : World} (h : SatW E (listH []) Fs E.w0 E.ρ0 E.A0) (hb : Below E.w0.heap.size E.w0 w') : SatW E (listH []) Fs w' E.ρ0 E.A0 := by
  have hd : ∀ k, listH [] k = .dead := fun k => rfl
  have kp : Vc.Keeps (ctxOf E (listH []) E.w0 E.ρ0 E.A0) (ctxOf E (listH []) w' E.ρ0 E.A0) := by
    refine ⟨fun b hb' => ?_, fun b hb' => ?_, fun b hb' => hb', fun b hb' => ?_, ⟨Nat.le_refl _, fun _ _ => rfl⟩⟩
    · rcases hb' with hb' | ⟨h1, h2, _⟩
      · exact .inl hb'
      · exact absurd h2 (by omega)
    · exact hb.block b (h.ok_lt hb')
    · exact hb.block b (h.zB b hb').1
  exact { os := hb.os, tape := hb.tape, output := hb.output, size := hb.size, frame := fun b hb' _ => hb.block b hb', okB := h.okB, zB := h.zB,
          place := fun k hk => absurd (hd k) hk, inj := fun k _ hk => absurd (hd k) hk, stay := h.stay, fix := fun _ k _ ha => absurd (hd k) ha, grow := fun _ k _ vs T fr h0 => ⟨vs, T, fr, (hb.block _ (Array.getElem?_eq_some_iff.1 h0).1).trans h0, Nat.le_refl _⟩, pins := fun p hp => ⟨(h.pins p hp).1, (hb.block _ (h.okB _ (h.pins p hp).1).1).trans (h.pins p hp).2⟩, obj := fun k => by rw [hd k]; trivial, fl := h.fl, nf := h.nf, A0 := h.A0,
          fam := fun f fam hf => RepFam.move kp (by rw [← h.fl]; exact (List.getElem?_eq_some_iff.1 hf).1) (h.fam f fam hf) }
theorem ret_bel {E : Entry} {con : Con} {Fs : List Fam} {K : AV → List AO → List Fam → Prop} {v : Value} {e : Ending} {w' : World} (h : SatW E (listH []) Fs E.w0 E.ρ0 E.A0) (hn : E.n0 = 0) (he : e = .returned v) (hb : Below E.w0.heap.size E.w0 w') (hK : K (.val v) [] []) : Ret E con Fs K e w' := by
  refine ⟨v, .val v, [], [], E.ρ0, E.A0, he, hK, ?_, .val v, by omega, Nat.zero_le _, fun _ => ⟨⟨rfl, by simp⟩, rfl⟩⟩
  rw [List.append_nil]
  exact satW_bel h hb
def c_errors_Is : Con := ⟨0, 0, false, fun xs hs _ K => match xs with
  | [.val .nilIface, .iface t (.val (.pointer (some _)))] => hs = [] ∧ t = 158 ∧ K (B false) [] []
  | [.iface t (.val (.pointer (some p))), .iface u (.val (.pointer (some q)))] => hs = [] ∧ t = 158 ∧ u = 158 ∧ p = q ∧ K (B true) [] []
  | _ => False⟩
theorem k_errors_Is : Keeps' Tryz.prog 110 c_errors_Is := by
  intro E args aargs hs Fs K hc hl hn0 hsat hrep hfx
  simp only [c_errors_Is] at hc
  have two : ∀ {x y : AV}, aargs = [x, y] → ∃ u v, args = [u, v] := by
    intro x y e
    subst e
    rcases args with _ | ⟨u, _ | ⟨v, _ | ⟨z, t⟩⟩⟩ <;> simp at hl
    exact ⟨u, v, rfl⟩
  split at hc
  case h_3 => exact hc.elim
  case h_1 t q =>
    obtain ⟨rfl, rfl, hK⟩ := hc
    obtain ⟨u, v, rfl⟩ := two rfl
    have h0 := hrep 0 _ u rfl rfl
    have h1 := hrep 1 _ v rfl rfl
    cases h0
    cases h1 with
    | iface _ _ z _ hz =>
      cases hz
      refine (is_nil _ E.w0).mono ?_
      rintro e w' ⟨rfl, rfl⟩
      exact ret_bel hsat hn0 rfl (Below.refl _ _) hK
  case h_2 t p u' q =>
    obtain ⟨rfl, rfl, rfl, rfl, hK⟩ := hc
    obtain ⟨u, v, rfl⟩ := two rfl
    have h0 := hrep 0 _ u rfl rfl
    have h1 := hrep 1 _ v rfl rfl
    cases h0 with
    | iface _ _ y _ hy =>
      cases h1 with
      | iface _ _ z _ hz =>
        cases hy
        cases hz
        refine (is_same _ E.w0).mono ?_
        rintro e w' ⟨rfl, rfl⟩
        exact ret_bel hsat hn0 rfl (Below.refl _ _) hK
end Go.Proofs.YtkabnbjlglippaaGreatDoor
