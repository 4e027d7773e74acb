/-
The law FnWavesAgree: the tied card.
Conditions: as the card says them.
-/
import Derived.Test.YtenflffikgfphaaDoorWbE
import Derived.Test.YtenflffikgfphaaDoorCrA
namespace Go.Proofs.YtenflffikgfphaaDoor
open Go Go.Vc Go.ChangeShapes Go.WideShapes Go.ChangeAt Go.RowKit Go.Joins
set_option maxRecDepth 100000
theorem crd_u8 : Tryd.prog.cellsOf 5 = 1 := by kernel_rfl
theorem fnWavesAgree_lifted (os : Os) (started : os.Started) (H : Type) (enc : TypeId × Value → H) :
    ReturnsInHanded {} Tryd.checked os 7 .any (fun w args => (Rows.fnWavesAgreeSpec.pre enc Tryd.prog Tryd.f7 [] false w args ∧ laidMetH Tryd.prog errL w) ∧ sizedMet enc Tryd.prog Tryd.f7 (OpenSpec.ofChange Rows.fnWavesAgreeSpec) false w args)
      (Rows.fnWavesAgreeSpec.post enc Tryd.prog Tryd.f7 false true false false) := by
  refine returnsInHanded_of_change_and (C := Tryd.checked) (X := fun w _ => laidMetH Tryd.prog errL w) (fun _ _ _ hh h => h.of_heap hh) Tryd.own started (by kernel_rfl) Tryd.func7
    (ChangeSpec.witness_at (enc := enc) (C := Tryd.checked) (os := os) (X := fun w _ => laidMetH Tryd.prog errL w) false (World.laidAll Tryd.prog os errL)
      #[.slice none 0 0, .slice none 0 0] 8
      (World.laidAll_os _ _ _) (by kernel_rfl) (by kernel_rfl) (by kernel_rfl) (by kernel_rfl) (by kernel_rfl) (laid_startE os _)) ?_
  intro W base args ds gs before hval0 hW _ _ hL _
  have hval : ∀ (j : Nat) t v, Tryd.f7.params[j]? = some t → args[j]? = some v → Value.okWide Tryd.prog W .any base t v := hval0
  have hW' := hW
  obtain ⟨p, q, hA, hV, hbe, _, _⟩ := hW
  have hlt : ∀ x ∈ p, x.block < W.heap.size := fun x hx => hW'.lt x (by rw [hbe]; exact List.mem_append_left _ hx)
  have hA : DataW.TrodAll enc Tryd.prog W 0 (fun _ => true) true Tryd.f7.params.toList args.toList ds p := hA
  rw [Tryd.params7] at hA hval
  obtain ⟨gv0, gv1, gv2, rfl⟩ := vars_three hV
  obtain ⟨args⟩ := args
  obtain ⟨v0, vs0, d0, ds0, p0, q0, e0, rfl, rfl, h0, hA⟩ := trodAll_cons hA
  obtain ⟨v1, vs1, d1, ds1, p1, q1, rfl, rfl, rfl, h1, hA⟩ := trodAll_cons hA
  obtain ⟨rfl, rfl, rfl⟩ := trodAll_nil hA
  have e0 : args = [v0, v1] := e0
  subst e0
  obtain ⟨a0, b0, c0, rfl⟩ := okWide_slice Tryd.underlying22 (hval 0 22 v0 rfl rfl)
  obtain ⟨n0, g0⟩ := h0
  obtain ⟨_, r0, l0⟩ := open_argBytes Tryd.underlying22 Tryd.underlying5 crd_u8 g0 (fun x hx => hlt x (by simp [hx]))
  obtain ⟨a1, b1, c1, rfl⟩ := okWide_slice Tryd.underlying22 (hval 1 22 v1 rfl rfl)
  obtain ⟨n1, g1⟩ := h1
  obtain ⟨_, r1, l1⟩ := open_argBytes Tryd.underlying22 Tryd.underlying5 crd_u8 g1 (fun x hx => hlt x (by simp [hx]))
  have hcall := calls_laidE k_laws_FnWavesAgree hL (repA_cons r0 (repA_cons r1 repA_nil)) (by simp [pureA, pureB]) (b := true) fun Fs ⟨e0, e1, e2, hF⟩ => ⟨rfl, e0, e1, e2, hF, l0, l1, rfl⟩
  refine hcall.mono ?_
  rintro e W' ⟨rfl, hb⟩
  exact ⟨_, rfl, post_lawV Tryd.laid (by rw [Tryd.params7]; exact of_decide_eq_true (by kernel_rfl)) rfl Tryd.underlying4 errs_vars rfl rfl rfl hW' hb⟩
theorem fnWavesAgree_row : Rows.FnWavesAgreeSaid :=
  OpenClaim.holds_of_wide 7 Tryd.f7 rfl rfl rfl rfl rfl rfl rfl ⟨rfl, rfl, rfl, rfl, rfl⟩ rfl rfl rfl rfl rfl (by kernel_rfl) Tryd.func7 (by kernel_rfl)
    (of_decide_eq_true (by kernel_rfl)) (by unfold Func.isWrapper; first | (rw [if_pos (by decide +kernel)]; kernel_rfl) | (rw [if_neg (by decide +kernel)]; exact ⟨rfl, rfl⟩))
    (fun os started H enc _ => fnWavesAgree_lifted os started H enc)
theorem fnWavesAgreeCard_holds : Rows.FnWavesAgreeCardSaid :=
  Claim7.holds_tied_plain_at .later [] [.sentinel, .sentinel, .sentinel] true Rows.fnWavesAgreeCard.stood.harness true
    fnWavesAgree_row (fun _ h => by cases h) (by kernel_rfl) (fun _ h => by cases h) fnWavesAgree_row_tie rfl ⟨rfl, rfl⟩ (by kernel_rfl) rfl
    (fun f fn hf hfn => by
      obtain rfl : f = 7 := Option.some.inj ((show Tryd.prog.funcNamed "loop.example/dagconsensus/laws.FnWavesAgree" = some 7 by kernel_rfl).symm.trans hf) |>.symm
      obtain rfl : fn = Tryd.f7 := (Option.some.inj (Tryd.func7.symm.trans hfn)).symm
      exact ⟨by kernel_rfl, fun j t ht => by
        rw [Tryd.params7] at ht
        have hm : t ∈ [22] := by simpa using Array.mem_of_getElem? ht
        have hall : ([22].all fun u => !Tryd.prog.wantsStandIn u) = true := by kernel_rfl
        exact (show Tryd.prog.wantsStandIn t = false by simpa using List.all_eq_true.1 hall t hm)⟩)
    (by kernel_rfl)
end Go.Proofs.YtenflffikgfphaaDoor
