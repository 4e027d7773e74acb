/-
The law FnOrderWaves: the tied card.
Conditions: as the card says them.
-/
import Derived.Test.YtkabnbjlglippaaGreatDoorOmB
import Derived.Test.YtkabnbjlglippaaGreatDoorCrA
namespace Go.Proofs.YtkabnbjlglippaaGreatDoor
open Go Go.Vc Go.ChangeShapes Go.WideShapes Go.ChangeAt Go.RowKit Go.Joins
set_option maxRecDepth 100000
theorem crd_u8 : Tryz.prog.cellsOf 5 = 1 := by kernel_rfl
theorem fnOrderWaves_lifted (os : Os) (started : os.Started) (H : Type) (enc : TypeId × Value → H) :
    ReturnsInHanded {} Tryz.checked os 6 .any (fun w args => (Rows.fnOrderWavesSpec.pre enc Tryz.prog Tryz.f6 [] false w args ∧ laidMetH Tryz.prog errL w) ∧ sizedMet enc Tryz.prog Tryz.f6 (OpenSpec.ofChange Rows.fnOrderWavesSpec) false w args)
      (Rows.fnOrderWavesSpec.post enc Tryz.prog Tryz.f6 false true false false) := by
  refine returnsInHanded_of_change_and (C := Tryz.checked) (X := fun w _ => laidMetH Tryz.prog errL w) (fun _ _ _ hh h => h.of_heap hh) Tryz.own started (by kernel_rfl) Tryz.func6
    (ChangeSpec.witness_at (enc := enc) (C := Tryz.checked) (os := os) (X := fun w _ => laidMetH Tryz.prog errL w) false (World.laidAll Tryz.prog os errL)
      #[.slice none 0 0] 8
      (World.laidAll_os _ _ _) (by kernel_rfl) (by kernel_rfl) (by kernel_rfl) (by kernel_rfl) (by kernel_rfl) (laid_startE os _)) ?_
  intro W base args ds gs before hval0 hW _ _ hL _
  have hval : ∀ (j : Nat) t v, Tryz.f6.params[j]? = some t → args[j]? = some v → Value.okWide Tryz.prog W .any base t v := hval0
  have hW' := hW
  obtain ⟨p, q, hA, hV, hbe, _, _⟩ := hW
  have hlt : ∀ x ∈ p, x.block < W.heap.size := fun x hx => hW'.lt x (by rw [hbe]; exact List.mem_append_left _ hx)
  have hA : DataW.TrodAll enc Tryz.prog W 0 (fun _ => true) true Tryz.f6.params.toList args.toList ds p := hA
  rw [Tryz.params6] at hA hval
  obtain ⟨gv0, gv1, gv2, rfl⟩ := vars_three hV
  obtain ⟨args⟩ := args
  obtain ⟨v0, vs0, d0, ds0, p0, q0, e0, rfl, rfl, h0, hA⟩ := trodAll_cons hA
  obtain ⟨rfl, rfl, rfl⟩ := trodAll_nil hA
  have e0 : args = [v0] := e0
  subst e0
  obtain ⟨a0, b0, c0, rfl⟩ := okWide_slice Tryz.underlying38 (hval 0 38 v0 rfl rfl)
  obtain ⟨n0, g0⟩ := h0
  obtain ⟨_, r0, l0⟩ := open_argBytes Tryz.underlying38 Tryz.underlying5 crd_u8 g0 (fun x hx => hlt x (by simp [hx]))
  have hcall := calls_laidE k_laws_FnOrderWaves hL (repA_cons r0 repA_nil) (by simp [pureA, pureB]) (b := true) fun Fs ⟨e0, e1, e2, hF⟩ => ⟨rfl, e0, e1, e2, hF, l0, rfl⟩
  refine hcall.mono ?_
  rintro e W' ⟨rfl, hb⟩
  exact ⟨_, rfl, post_lawV Tryz.laid (by rw [Tryz.params6]; exact of_decide_eq_true (by kernel_rfl)) rfl Tryz.underlying4 errs_vars rfl rfl rfl hW' hb⟩
theorem fnOrderWaves_row : Rows.FnOrderWavesSaid :=
  OpenClaim.holds_of_wide 6 Tryz.f6 rfl rfl rfl rfl rfl rfl rfl ⟨rfl, rfl, rfl, rfl, rfl⟩ rfl rfl rfl rfl rfl (by kernel_rfl) Tryz.func6 (by kernel_rfl)
    (of_decide_eq_true (by kernel_rfl)) (by unfold Func.isWrapper; first | (rw [if_pos (by decide +kernel)]; kernel_rfl) | (rw [if_neg (by decide +kernel)]; exact ⟨rfl, rfl⟩))
    (fun os started H enc _ => fnOrderWaves_lifted os started H enc)
theorem fnOrderWavesCard_holds : Rows.FnOrderWavesCardSaid :=
  Claim7.holds_tied_plain_at .later [] [.sentinel, .sentinel, .sentinel] true Rows.fnOrderWavesCard.stood.harness true
    fnOrderWaves_row (fun _ h => by cases h) (by kernel_rfl) (fun _ h => by cases h) fnOrderWaves_row_tie rfl ⟨rfl, rfl⟩ (by kernel_rfl) rfl
    (fun f fn hf hfn => by
      obtain rfl : f = 6 := Option.some.inj ((show Tryz.prog.funcNamed "loop.example/dagconsensus/laws.FnOrderWaves" = some 6 by kernel_rfl).symm.trans hf) |>.symm
      obtain rfl : fn = Tryz.f6 := (Option.some.inj (Tryz.func6.symm.trans hfn)).symm
      exact ⟨by kernel_rfl, fun j t ht => by
        rw [Tryz.params6] at ht
        have hm : t ∈ [38] := by simpa using Array.mem_of_getElem? ht
        have hall : ([38].all fun u => !Tryz.prog.wantsStandIn u) = true := by kernel_rfl
        exact (show Tryz.prog.wantsStandIn t = false by simpa using List.all_eq_true.1 hall t hm)⟩)
    (by kernel_rfl)
end Go.Proofs.YtkabnbjlglippaaGreatDoor
