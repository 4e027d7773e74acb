/-
The law FnExactOrderSlots: the tied card.
Conditions: as the card says them.
-/
import Derived.Test.YtkabnbjlglippaaGreatDoorOmL
import Derived.Test.YtkabnbjlglippaaGreatDoorCzA
import Derived.Test.YtkabnbjlglippaaGreatDoorOpV
namespace Go.Proofs.YtkabnbjlglippaaGreatDoor
open Go Go.Vc Go.ChangeShapes Go.WideShapes Go.ChangeAt Go.RowKit Go.Joins
set_option maxRecDepth 100000
theorem crd_int : Tryz.prog.cellsOf 3 = 1 := by kernel_rfl
theorem fnExactOrderSlots_lifted (os : Os) (started : os.Started) (H : Type) (enc : TypeId × Value → H) :
    ReturnsInHanded {} Tryz.checked os 4 .any (fun w args => (Rows.fnExactOrderSlotsSpec.pre enc Tryz.prog Tryz.f4 [] false w args ∧ laidMetH Tryz.prog errL w) ∧ sizedMet enc Tryz.prog Tryz.f4 (OpenSpec.ofChange Rows.fnExactOrderSlotsSpec) false w args)
      (Rows.fnExactOrderSlotsSpec.post enc Tryz.prog Tryz.f4 false true false false) := by
  refine returnsInHanded_of_change_and (C := Tryz.checked) (X := fun w _ => laidMetH Tryz.prog errL w) (fun _ _ _ hh h => h.of_heap hh) Tryz.own started (by kernel_rfl) Tryz.func4
    (ChangeSpec.witness_at (enc := enc) (C := Tryz.checked) (os := os) (X := fun w _ => laidMetH Tryz.prog errL w) false (World.laidAll Tryz.prog os errL)
      #[.slice none 0 0, .slice none 0 0, .slice none 0 0] 8
      (World.laidAll_os _ _ _) (by kernel_rfl) (by kernel_rfl) (by kernel_rfl) (by kernel_rfl) (by kernel_rfl) (laid_startE os _)) ?_
  intro W base args ds gs before hval0 hW _ _ hL _
  have hval : ∀ (j : Nat) t v, Tryz.f4.params[j]? = some t → args[j]? = some v → Value.okWide Tryz.prog W .any base t v := hval0
  have hW' := hW
  obtain ⟨p, q, hA, hV, hbe, _, _⟩ := hW
  have hlt : ∀ x ∈ p, x.block < W.heap.size := fun x hx => hW'.lt x (by rw [hbe]; exact List.mem_append_left _ hx)
  have hA : DataW.TrodAll enc Tryz.prog W 0 (fun _ => true) true Tryz.f4.params.toList args.toList ds p := hA
  rw [Tryz.params4] at hA hval
  obtain ⟨gv0, gv1, gv2, rfl⟩ := vars_three hV
  obtain ⟨args⟩ := args
  obtain ⟨v0, vs0, d0, ds0, p0, q0, e0, rfl, rfl, h0, hA⟩ := trodAll_cons hA
  obtain ⟨v1, vs1, d1, ds1, p1, q1, rfl, rfl, rfl, h1, hA⟩ := trodAll_cons hA
  obtain ⟨v2, vs2, d2, ds2, p2, q2, rfl, rfl, rfl, h2, hA⟩ := trodAll_cons hA
  obtain ⟨rfl, rfl, rfl⟩ := trodAll_nil hA
  have e0 : args = [v0, v1, v2] := e0
  subst e0
  obtain ⟨a0, b0, c0, rfl⟩ := okWide_slice Tryz.underlying22 (hval 0 22 v0 rfl rfl)
  obtain ⟨n0, g0⟩ := h0
  obtain ⟨_, r0, l0, _⟩ := open_argInts Tryz.underlying22 Tryz.underlying3 crd_int g0 (fun x hx => hlt x (by simp [hx]))
  obtain ⟨ls1, r1, l1a, l1b⟩ := open_vertices (hval 1 _ v1 rfl rfl) h1 (fun x hx => hlt x (by simp [hx]))
  obtain ⟨a2, b2, c2, rfl⟩ := okWide_slice Tryz.underlying22 (hval 2 22 v2 rfl rfl)
  obtain ⟨n2, g2⟩ := h2
  obtain ⟨_, r2, l2, _⟩ := open_argInts Tryz.underlying22 Tryz.underlying3 crd_int g2 (fun x hx => hlt x (by simp [hx]))
  have hcall := calls_laidEZ k_laws_FnExactOrderSlots hL (fun ps => repA_cons (z_ints ps r0) (repA_cons (z_vertices ps r1) (repA_cons (z_ints ps r2) repA_nil))) (b := true) fun Fs ⟨e0, e1, e2, hF, hz⟩ => ⟨rfl, e0, e1, e2, hF, hz, ⟨_, rfl, l0⟩, ⟨ls1, rfl, l1a, l1b⟩, ⟨_, rfl, l2⟩, rfl⟩
  refine hcall.mono ?_
  rintro e W' ⟨rfl, hb⟩
  exact ⟨_, rfl, post_lawV Tryz.laid (by rw [Tryz.params4]; exact of_decide_eq_true (by kernel_rfl)) rfl Tryz.underlying4 errs_vars rfl rfl rfl hW' hb⟩
theorem fnExactOrderSlots_row : Rows.FnExactOrderSlotsSaid :=
  OpenClaim.holds_of_wide 4 Tryz.f4 rfl rfl rfl rfl rfl rfl rfl ⟨rfl, rfl, rfl, rfl, rfl⟩ rfl rfl rfl rfl rfl (by kernel_rfl) Tryz.func4 (by kernel_rfl)
    (of_decide_eq_true (by kernel_rfl)) (by unfold Func.isWrapper; first | (rw [if_pos (by decide +kernel)]; kernel_rfl) | (rw [if_neg (by decide +kernel)]; exact ⟨rfl, rfl⟩))
    (fun os started H enc _ => fnExactOrderSlots_lifted os started H enc)
theorem fnExactOrderSlotsCard_holds : Rows.FnExactOrderSlotsCardSaid :=
  Claim7.holds_tied_plain_at .later [] [.sentinel, .sentinel, .sentinel] true Rows.fnExactOrderSlotsCard.stood.harness true
    fnExactOrderSlots_row (fun _ h => by cases h) (by kernel_rfl) (fun _ h => by cases h) fnExactOrderSlots_row_tie rfl ⟨rfl, rfl⟩ (by kernel_rfl) rfl
    (fun f fn hf hfn => by
      obtain rfl : f = 4 := Option.some.inj ((show Tryz.prog.funcNamed "loop.example/dagconsensus/laws.FnExactOrderSlots" = some 4 by kernel_rfl).symm.trans hf) |>.symm
      obtain rfl : fn = Tryz.f4 := (Option.some.inj (Tryz.func4.symm.trans hfn)).symm
      exact ⟨by kernel_rfl, fun j t ht => by
        rw [Tryz.params4] at ht
        have hm : t ∈ [22, 23, 22] := by simpa using Array.mem_of_getElem? ht
        have hall : ([22, 23, 22].all fun u => !Tryz.prog.wantsStandIn u) = true := by kernel_rfl
        exact (show Tryz.prog.wantsStandIn t = false by simpa using List.all_eq_true.1 hall t hm)⟩)
    (by kernel_rfl)
end Go.Proofs.YtkabnbjlglippaaGreatDoor
