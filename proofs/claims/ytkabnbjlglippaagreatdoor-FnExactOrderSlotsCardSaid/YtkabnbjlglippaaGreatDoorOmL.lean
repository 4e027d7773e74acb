/-
The law FnExactOrderSlots: its contract.
No conditions.
-/
import Derived.Test.YtkabnbjlglippaaGreatDoorOsP
import Derived.Test.YtkabnbjlglippaaGreatDoorZvX
import Derived.Test.YtkabnbjlglippaaGreatDoorZvX
import Derived.Test.YtkabnbjlglippaaGreatDoorSlA
namespace Go.Proofs.YtkabnbjlglippaaGreatDoor
open Go Go.Vc
set_option maxHeartbeats 4000000
set_option maxRecDepth 10000
theorem pR_zB (S : List (Int × Int)) : ∀ e ∈ S.map pR, ∀ a ∈ e, zB a = true := by
  intro e he a ha
  obtain ⟨p, _, rfl⟩ := List.mem_map.1 he
  simp only [pR, List.mem_cons, List.not_mem_nil, or_false] at ha
  rcases ha with rfl | rfl <;> rfl
def c_laws_FnExactOrderSlots : Con := ⟨0, 0, false, fun xs hs Fs K => match xs with
  | [.zsl 1 rc, .zsl 4 rows, .zsl 1 rl] =>
    hs = [] ∧ ∃ p0 p1 p2, hasErr Fs p0 p1 p2 ∧ famsZ Fs ∧ (∃ c : List Int, rc = icells c ∧ c.length ≤ 9223372036854775807) ∧ (∃ g : List VxD, rows = g.map VxD.rowZ ∧ (∀ x ∈ g, x.big) ∧ g.length ≤ 9223372036854775807) ∧ (∃ L : List Int, rl = icells L ∧ L.length ≤ 9223372036854775807) ∧ K (B true) [] []
  | _ => False⟩
theorem k_laws_FnExactOrderSlots : KeepsZ Tryz.prog 4 c_laws_FnExactOrderSlots := by
  refine keepsZ_of_sp mix TyT_ok (cok_cons k_laws_szVertexS_n Tryz.func15 rfl rfl (cok_cons k_laws_toIntS_n Tryz.func17 rfl rfl (cok_cons k_laws_toVertexS_n Tryz.func18 rfl rfl (cok_cons k_spec_OrderSlots Tryz.func25 rfl rfl (cok_cons k_impl_OrderSlots Tryz.func26 rfl rfl (cok_cons k_laws_eqIntS Tryz.func20 rfl rfl (cok_cons k_laws_eqSlotS Tryz.func27 rfl rfl (cok_cons k_laws_eqVertexS Tryz.func21 rfl rfl (cok_cons k_laws_markIntS Tryz.func22 rfl rfl (cok_cons k_laws_markSlotS Tryz.func28 rfl rfl (cok_cons k_laws_heldSlotS Tryz.func29 rfl rfl cok_nil))))))))))) sp_laws_markVertexS Tryz.func4 rfl rfl rfl [24] [] ?_
  intro aargs Fs K h
  simp only [c_laws_FnExactOrderSlots] at h
  split at h
  case h_2 => exact h.elim
  rename_i rc rows rl
  obtain ⟨-, p0, p1, p2, hE, hz, ⟨c, rfl, l1⟩, ⟨g, rfl, hbig, l2⟩, ⟨L, rfl, l3⟩, h⟩ := h
  have hlen : (g.map VxD.rowZ).length = g.length := by simp
  have hlc : (icells c).length = c.length := icells_length c
  have hlL : (icells L).length = L.length := icells_length L
  have hdl := slotsP_small (c := c) (g := g) (L := L)
  have hzp : ∀ e ∈ (slotsP c g L).map pR, ∀ a ∈ e, zB a = true := pR_zB _
  have hln : (slotsP c g L).length < 2000000 := by omega
  have hE2 : hasErr (Fs ++ ([] : List Fam)) p0 p1 p2 := err_app hE
  refine cutsM_step (by rfl) (fun _ : Unit => mkS 111 [(0, .zsl 1 (icells c)), (1, .zsl 4 (g.map VxD.rowZ)), (2, .zsl 1 (icells L)), (8, .own 0), (10, .own 1), (11, .own 2), (12, .own 3), (13, I (1 + c.length))] [.arr 2 ((slotsP c g L).map pR), .arr 4 (g.map VxD.row), .iarr L, .arr 2 ((slotsP c g L).map pR)] Fs)
    (fun _ => c.length ≤ 1048576 ∧ L.length ≤ 1048576 ∧ g.length ≤ 1048576 ∧ ∀ x ∈ g, x.mid) ?_ ?_
  · repeat' (first|((conv=>whnf); (first|refine brK_dec (fun _=>?_) (fun _=>?_)|refine brK_ndec (fun _=>?_) (fun _=>?_)|refine brK_not (fun _=>?_) (fun _=>?_)|refine brK_in (fun _=>?_) (fun _=>?_)|refine And.intro (by first|exact rfl|exact hbig|exact ⟨_,rfl,rfl⟩|exact ⟨rfl,rfl,rfl⟩|exact of_decide_eq_true rfl|exact trivial|assumption|omega|(show (_ ≤ _ ∧ _ ≤ _); omega)|(simp; omega)|exact ⟨by first|omega|(simp; omega),_,rfl,rfl⟩) ?_|refine Quo.l (And.intro (by first|exact rfl|exact hbig|assumption|omega|(simp; omega)) ?_)|refine Quo.r (And.intro (by omega) ?_)|refine Both.mk ?_ ?_|refine Exists.intro _ (And.intro rfl ?_)|refine fun _=>?_))|exact rfl)
    · exact h
    · exact h
    · exact h
    rename_i v hv hfin hge
    obtain ⟨l4, hmid⟩ := hfin (by omega)
    have hsm : ∀ x ∈ g, x.p.length < 2000000 := fun x hx => Nat.lt_of_le_of_lt (hmid x hx) (by decide)
    repeat' (first|((conv=>whnf); (first|refine brK_dec (fun _=>?_) (fun _=>?_)|refine brK_ndec (fun _=>?_) (fun _=>?_)|refine brK_not (fun _=>?_) (fun _=>?_)|refine brK_in (fun _=>?_) (fun _=>?_)|refine And.intro (by first|exact rfl|exact (by first|exact hmid|exact hsm)|exact ⟨_,rfl,rfl⟩|exact ⟨rfl,rfl,rfl⟩|exact of_decide_eq_true rfl|exact trivial|assumption|omega|(show (_ ≤ _ ∧ _ ≤ _); omega)|(simp; omega)|exact ⟨by first|omega|(simp; omega),_,rfl,rfl⟩) ?_|refine Quo.l (And.intro (by first|exact rfl|exact (by first|exact hmid|exact hsm)|assumption|omega|(simp; omega)) ?_)|refine Quo.r (And.intro (by omega) ?_)|refine Both.mk ?_ ?_|refine Exists.intro _ (And.intro rfl ?_)|refine fun _=>?_))|exact rfl)
    refine Exists.intro p0 (Exists.intro p1 (Exists.intro p2 (And.intro hE2 ?_)))
    repeat' (first|((conv=>whnf); (first|refine brK_dec (fun _=>?_) (fun _=>?_)|refine brK_ndec (fun _=>?_) (fun _=>?_)|refine brK_not (fun _=>?_) (fun _=>?_)|refine brK_in (fun _=>?_) (fun _=>?_)|refine And.intro (by first|exact rfl|exact (by first|exact hmid|exact hsm|exact hln|exact mkL_len _ _)|exact ⟨_,rfl,rfl⟩|exact ⟨rfl,rfl,rfl⟩|exact of_decide_eq_true rfl|exact trivial|assumption|omega|(show (_ ≤ _ ∧ _ ≤ _); omega)|(simp; omega)|exact ⟨by first|omega|(simp; omega),_,rfl,rfl⟩) ?_|refine Quo.l (And.intro (by first|exact rfl|exact (by first|exact hmid|exact hsm|exact hln|exact mkL_len _ _)|assumption|omega|(simp; omega)) ?_)|refine Quo.r (And.intro (by omega) ?_)|refine Both.mk ?_ ?_|refine Exists.intro _ (And.intro rfl ?_)|refine fun _=>?_))|exact rfl)
    all_goals first
      | (rename_i q; exact absurd rfl q)
      | skip
    refine ⟨(), [3, 5, 6, 7], ⟨by omega, by omega, l4, hmid⟩, ?_⟩
    repeat' (first|((conv=>whnf); (first|refine brK_dec (fun _=>?_) (fun _=>?_)|refine brK_ndec (fun _=>?_) (fun _=>?_)|refine brK_not (fun _=>?_) (fun _=>?_)|refine brK_in (fun _=>?_) (fun _=>?_)|refine And.intro (by first|exact rfl|exact ⟨_,rfl,rfl⟩|exact ⟨rfl,rfl,rfl⟩|exact of_decide_eq_true rfl|exact trivial|assumption|omega|(show (_ ≤ _ ∧ _ ≤ _); omega)|(simp; omega)|exact ⟨by first|omega|(simp; omega),_,rfl,rfl⟩) ?_|refine Quo.l (And.intro (by first|exact rfl|assumption|omega|(simp; omega)) ?_)|refine Quo.r (And.intro (by omega) ?_)|refine Both.mk ?_ ?_|refine Exists.intro _ (And.intro rfl ?_)|refine fun _=>?_))|exact rfl)
  rintro ⟨⟩ ⟨g1, g2, g3, g4⟩
  have hsm : ∀ x ∈ g, x.p.length < 2000000 := fun x hx => Nat.lt_of_le_of_lt (g4 x hx) (by decide)
  unfold vcCutsM
  simp only [List.nil_append, List.cons_append]
  refine sp_step (by rfl) (fun m : Int => mkS 111 [(0, .zsl 1 (icells c)), (1, .zsl 4 (g.map VxD.rowZ)), (2, .zsl 1 (icells L)), (8, .own 0), (11, .own 1), (12, .own 2), (13, I m)] [.arr 2 ((slotsP c g L).map pR), .iarr L, .arr 2 ((slotsP c g L).map pR)] Fs)
    (fun m => 0 ≤ m ∧ m ≤ 2000000000000) ?_ ?_
  · repeat' (first|((conv=>whnf); (first|refine brK_dec (fun _=>?_) (fun _=>?_)|refine brK_ndec (fun _=>?_) (fun _=>?_)|refine brK_not (fun _=>?_) (fun _=>?_)|refine brK_in (fun _=>?_) (fun _=>?_)|refine And.intro (by first|exact rfl|exact (by first|exact g4|exact hz|exact hzp)|exact ⟨_,rfl,rfl⟩|exact ⟨rfl,rfl,rfl⟩|exact of_decide_eq_true rfl|exact trivial|assumption|omega|(show (_ ≤ _ ∧ _ ≤ _); omega)|(simp; omega)|exact ⟨by first|omega|(simp; omega),_,rfl,rfl⟩) ?_|refine Quo.l (And.intro (by first|exact rfl|exact (by first|exact g4|exact hz|exact hzp)|assumption|omega|(simp; omega)) ?_)|refine Quo.r (And.intro (by omega) ?_)|refine Both.mk ?_ ?_|refine Exists.intro _ (And.intro rfl ?_)|refine fun _=>?_))|exact rfl)
    rename_i m g5 g6
    refine ⟨m, [0, 2, 3], ⟨by omega, by omega⟩, ?_⟩
    repeat' (first|((conv=>whnf); (first|refine brK_dec (fun _=>?_) (fun _=>?_)|refine brK_ndec (fun _=>?_) (fun _=>?_)|refine brK_not (fun _=>?_) (fun _=>?_)|refine brK_in (fun _=>?_) (fun _=>?_)|refine And.intro (by first|exact rfl|exact ⟨_,rfl,rfl⟩|exact ⟨rfl,rfl,rfl⟩|exact of_decide_eq_true rfl|exact trivial|assumption|omega|(show (_ ≤ _ ∧ _ ≤ _); omega)|(simp; omega)|exact ⟨by first|omega|(simp; omega),_,rfl,rfl⟩) ?_|refine Quo.l (And.intro (by first|exact rfl|assumption|omega|(simp; omega)) ?_)|refine Quo.r (And.intro (by omega) ?_)|refine Both.mk ?_ ?_|refine Exists.intro _ (And.intro rfl ?_)|refine fun _=>?_))|exact rfl)
  rintro m ⟨g5, g6⟩
  have hml : (mkP 1 (slotsP c g L).length).length = (slotsP c g L).length := mkP_len _ _
  have hm1 : (mkP 1 (slotsP c g L).length).length < 2000000 := by omega
  have hm2 : mkP 1 (slotsP c g L).length = mkP 1 (mkP 1 (slotsP c g L).length).length := by rw [hml]
  repeat' (first|((conv=>whnf); (first|refine brK_dec (fun _=>?_) (fun _=>?_)|refine brK_ndec (fun _=>?_) (fun _=>?_)|refine brK_not (fun _=>?_) (fun _=>?_)|refine brK_in (fun _=>?_) (fun _=>?_)|refine And.intro (by first|exact rfl|exact (by first|exact g4|exact hsm|exact hln|exact mkL_len _ _|exact hm1|exact hm2)|exact ⟨_,rfl,rfl⟩|exact ⟨rfl,rfl,rfl⟩|exact of_decide_eq_true rfl|exact trivial|assumption|omega|(show (_ ≤ _ ∧ _ ≤ _); omega)|(simp; omega)|exact ⟨by first|omega|(simp; omega),_,rfl,rfl⟩) ?_|refine Quo.l (And.intro (by first|exact rfl|exact (by first|exact g4|exact hsm|exact hln|exact mkL_len _ _|exact hm1|exact hm2)|assumption|omega|(simp; omega)) ?_)|refine Quo.r (And.intro (by omega) ?_)|refine Both.mk ?_ ?_|refine Exists.intro _ (And.intro rfl ?_)|refine fun _=>?_))|exact rfl)
  · rename_i q
    omega
  · rename_i q
    omega
  refine Exists.intro p0 (Exists.intro p1 (Exists.intro p2 (And.intro hE2 ?_)))
  repeat' (first|((conv=>whnf); (first|refine brK_dec (fun _=>?_) (fun _=>?_)|refine brK_ndec (fun _=>?_) (fun _=>?_)|refine brK_not (fun _=>?_) (fun _=>?_)|refine brK_in (fun _=>?_) (fun _=>?_)|refine And.intro (by first|exact rfl|exact (by first|exact g4|exact hsm|exact hln|exact mkL_len _ _|exact hm1|exact hm2)|exact ⟨_,rfl,rfl⟩|exact ⟨rfl,rfl,rfl⟩|exact of_decide_eq_true rfl|exact trivial|assumption|omega|(show (_ ≤ _ ∧ _ ≤ _); omega)|(simp; omega)|exact ⟨by first|omega|(simp; omega),_,rfl,rfl⟩) ?_|refine Quo.l (And.intro (by first|exact rfl|exact (by first|exact g4|exact hsm|exact hln|exact mkL_len _ _|exact hm1|exact hm2)|assumption|omega|(simp; omega)) ?_)|refine Quo.r (And.intro (by omega) ?_)|refine Both.mk ?_ ?_|refine Exists.intro _ (And.intro rfl ?_)|refine fun _=>?_))|exact rfl)
  all_goals first
    | exact h
    | (rename_i q; exact absurd rfl q)
    | (rename_i q; omega)
    | trace_state
end Go.Proofs.YtkabnbjlglippaaGreatDoor
