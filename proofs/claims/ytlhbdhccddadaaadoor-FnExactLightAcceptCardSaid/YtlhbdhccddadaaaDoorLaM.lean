/-
The law FnExactLightAccept: the tied card.
Conditions: as the card says them.
-/
import Derived.Test.YtlhbdhccddadaaaDoorLaE
import Derived.Test.YtlhbdhccddadaaaDoorTbA
import Derived.Test.YtlhbdhccddadaaaDoorOpR
import Derived.Test.YtlhbdhccddadaaaDoorOpL
namespace Go.Proofs.YtlhbdhccddadaaaDoor
open Go Go.Vc Go.ChangeShapes Go.WideShapes Go.ChangeAt Go.RowKit Go.Joins
set_option maxRecDepth 100000
theorem crd_int : Tryd.prog.cellsOf 3 = 1 := by kernel_rfl
theorem fnExactLightAccept_lifted (os : Os) (started : os.Started) (H : Type) (enc : TypeId × Value → H) :
    ReturnsInHanded {} Tryd.checked os 5 .any (fun w args => (Rows.fnExactLightAcceptSpec.pre enc Tryd.prog Tryd.f5 [] false w args ∧ laidMetH Tryd.prog tabsL w) ∧ sizedMet enc Tryd.prog Tryd.f5 (OpenSpec.ofChange Rows.fnExactLightAcceptSpec) false w args)
      (Rows.fnExactLightAcceptSpec.post enc Tryd.prog Tryd.f5 false true false false) := by
  refine returnsInHanded_of_change_and (C := Tryd.checked) (X := fun w _ => laidMetH Tryd.prog tabsL w) (fun _ _ _ hh h => h.of_heap hh) Tryd.own started (by kernel_rfl) Tryd.func5
    (ChangeSpec.witness_at (enc := enc) (C := Tryd.checked) (os := os) (X := fun w _ => laidMetH Tryd.prog tabsL w) false (World.laidAll Tryd.prog os tabsL)
      #[.agg #[.int .i64 0, .slice none 0 0, .slice none 0 0, .int .i64 0], .slice none 0 0, .int .i64 0, .agg #[.int .i64 0, .bool false, .int .i64 0], .slice none 0 0] 8
      (World.laidAll_os _ _ _) (by kernel_rfl) (by kernel_rfl) (by kernel_rfl) (by kernel_rfl) (by kernel_rfl) (laid_start os _)) ?_
  intro W base args ds gs before hval0 hW _ _ hL _
  have hval : ∀ (j : Nat) t v, Tryd.f5.params[j]? = some t → args[j]? = some v → Value.okWide Tryd.prog W .any base t v := hval0
  have hW' := hW
  obtain ⟨p, q, hA, hV, hbe, _, _⟩ := hW
  have hlt : ∀ x ∈ p, x.block < W.heap.size := fun x hx => hW'.lt x (by rw [hbe]; exact List.mem_append_left _ hx)
  have hA : DataW.TrodAll enc Tryd.prog W 0 (fun _ => true) true Tryd.f5.params.toList args.toList ds p := hA
  rw [Tryd.params5] at hA hval
  obtain ⟨rfl, rfl⟩ := trodVars_none hV
  obtain ⟨args⟩ := args
  obtain ⟨v0, vs0, d0, ds0, p0, q0, e0, rfl, rfl, h0, hA⟩ := trodAll_cons hA
  obtain ⟨v1, vs1, d1, ds1, p1, q1, rfl, rfl, rfl, h1, hA⟩ := trodAll_cons hA
  obtain ⟨v2, vs2, d2, ds2, p2, q2, rfl, rfl, rfl, h2, hA⟩ := trodAll_cons hA
  obtain ⟨v3, vs3, d3, ds3, p3, q3, rfl, rfl, rfl, h3, hA⟩ := trodAll_cons hA
  obtain ⟨v4, vs4, d4, ds4, p4, q4, rfl, rfl, rfl, h4, hA⟩ := trodAll_cons hA
  obtain ⟨rfl, rfl, rfl⟩ := trodAll_nil hA
  have e0 : args = [v0, v1, v2, v3, v4] := e0
  subst e0
  obtain ⟨_, _, _, _, r0, l0a, l0b⟩ := open_epoch (hval 0 _ v0 rfl rfl) h0 (fun x hx => hlt x (by simp [hx]))
  obtain ⟨ls1, r1, l1a, l1b⟩ := open_links (hval 1 _ v1 rfl rfl) h1 (fun x hx => hlt x (by simp [hx]))
  obtain ⟨z2, rfl, _, _, _⟩ := open_int Tryd.underlying3 (hval 2 3 v2 rfl rfl) h2
  have r2 := RepV.val (c := outC W) (.int .i64 z2)
  obtain ⟨_, _, _, r3⟩ := open_receipt (hval 3 _ v3 rfl rfl) h3
  obtain ⟨a4, b4, c4, rfl⟩ := okWide_slice Tryd.underlying22 (hval 4 22 v4 rfl rfl)
  obtain ⟨n4, g4⟩ := h4
  obtain ⟨_, r4, l4, _⟩ := open_argInts Tryd.underlying22 Tryd.underlying3 crd_int g4 (fun x hx => hlt x (by simp [hx]))
  have hcall := calls_laid k_laws_FnExactLightAccept hL (repA_cons r0 (repA_cons r1 (repA_cons r2 (repA_cons r3 (repA_cons r4 repA_nil))))) (by simp [pureA, pureB]) (b := true) fun Fs hF => ⟨rfl, hF, l0a, l0b, ⟨ls1, rfl, l1a, l1b⟩, l4, rfl⟩
  refine hcall.mono ?_
  rintro e W' ⟨rfl, hb⟩
  exact ⟨_, rfl, post_law Tryd.laid (by rw [Tryd.params5]; exact of_decide_eq_true (by kernel_rfl)) rfl Tryd.underlying4 rfl rfl rfl rfl hW' hb⟩
theorem fnExactLightAccept_row : Rows.FnExactLightAcceptSaid :=
  OpenClaim.holds_of_wide 5 Tryd.f5 rfl rfl rfl rfl rfl rfl rfl ⟨rfl, rfl, rfl, rfl, rfl⟩ rfl rfl rfl rfl rfl (by kernel_rfl) Tryd.func5 (by kernel_rfl)
    (of_decide_eq_true (by kernel_rfl)) (by unfold Func.isWrapper; first | (rw [if_pos (by decide +kernel)]; kernel_rfl) | (rw [if_neg (by decide +kernel)]; exact ⟨rfl, rfl⟩))
    (fun os started H enc _ => fnExactLightAccept_lifted os started H enc)
theorem fnExactLightAcceptCard_holds : Rows.FnExactLightAcceptCardSaid :=
  Claim7.holds_tied_plain_at .later [] [.data, .data, .data] true Rows.fnExactLightAcceptCard.stood.harness true
    fnExactLightAccept_row (fun _ h => by cases h) (by kernel_rfl) (fun _ h => by cases h) fnExactLightAccept_row_tie rfl ⟨rfl, rfl⟩ (by kernel_rfl) rfl
    (fun f fn hf hfn => by
      obtain rfl : f = 5 := Option.some.inj ((show Tryd.prog.funcNamed "loop.example/dagconsensus/laws.FnExactLightAccept" = some 5 by kernel_rfl).symm.trans hf) |>.symm
      obtain rfl : fn = Tryd.f5 := (Option.some.inj (Tryd.func5.symm.trans hfn)).symm
      exact ⟨by kernel_rfl, fun j t ht => by
        rw [Tryd.params5] at ht
        have hm : t ∈ [24, 42, 3, 52, 22] := by simpa using Array.mem_of_getElem? ht
        have hall : ([24, 42, 3, 52, 22].all fun u => !Tryd.prog.wantsStandIn u) = true := by kernel_rfl
        exact (show Tryd.prog.wantsStandIn t = false by simpa using List.all_eq_true.1 hall t hm)⟩)
    (by kernel_rfl)
end Go.Proofs.YtlhbdhccddadaaaDoor
