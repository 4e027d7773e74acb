/-
The law FnOrderWave.
No conditions.
-/
import Derived.Test.YtkabnbjlglippaaGreatDoorOlB
namespace Go.Proofs.YtkabnbjlglippaaGreatDoor
open Go Go.Vc
set_option maxHeartbeats 4000000
set_option maxRecDepth 10000
theorem waveO_neg {c : List Int} {g : List VxD} {L : List Int} {r a : Int} (h : waveO c g L r a < 0) : okO c g L = false ∨ findV g r a = none := by
  cases e : okO c g L with
  | false => exact .inl rfl
  | true =>
    refine .inr ?_
    rw [waveO, if_pos e] at h
    cases hf : findV g r a with
    | none => rfl
    | some k =>
      rw [hf] at h
      have h : (wvV g L (outV c g L) k : Int) < 0 := h
      omega
theorem waveO_pos {c : List Int} {g : List VxD} {L : List Int} {r a : Int} (h : ¬ waveO c g L r a < 0) : ∃ k v, okO c g L = true ∧ g[k]? = some v ∧ v.r = r ∧ v.a = a ∧ waveO c g L r a = (wvV g L (outV c g L) k : Int) := by
  cases e : okO c g L with
  | false =>
    rw [waveO, e] at h
    simp at h
  | true =>
    rw [waveO, if_pos e] at h ⊢
    cases hf : findV g r a with
    | none =>
      rw [hf] at h
      simp at h
    | some k =>
      obtain ⟨v, hv, h1, h2⟩ := find_out hf
      exact ⟨k, v, rfl, hv, h1, h2, rfl⟩
theorem waveO_mem {c : List Int} {g : List VxD} {L : List Int} {r a : Int} (h : ¬ waveO c g L r a < 0) : (decide (0 < waveO c g L r a) = decide ((r, a) ∈ slotsP c g L)) ∧ (waveO c g L r a = 0 ∨ waveO c g L r a ∈ wavI c g L) := by
  obtain ⟨k, v, h1, h2, h3, h4, h5⟩ := waveO_pos h
  rw [h5]
  have hz := wv_zero (g := g) (L := L) (W := outV c g L) (k := k)
  refine ⟨decide_eq_decide.2 ?_, ?_⟩
  · rw [slots_mem h1]
    constructor
    · intro hp
      refine ⟨k, v, h2, h3, h4, ?_⟩
      rcases hz with hz | hz
      · omega
      · exact hz
    · rintro ⟨j, u, hu, e1, e2, hw⟩
      have e := idx_uniq (gV_sorted (slots_gV h1)) h2 hu (by omega) (by omega)
      subst e
      have := out_pos _ hw
      omega
  · rcases hz with hz | hz
    · exact .inl (by omega)
    · refine .inr ?_
      rw [wavI_ok h1]
      exact List.mem_map.2 ⟨_, hz, rfl⟩
theorem k_laws_FnOrderWave : Keeps' Tryz.prog 10 c_ordLaw := by
  refine keeps_of_vc mix TyT_ok (cok_cons k_spec_DrawOrderWave Tryz.func38 rfl rfl (cok_cons k_impl_OrderWave Tryz.func33 rfl rfl (cok_cons k_spec_OrderWave Tryz.func39 rfl rfl (cok_cons k_impl_GraphFind Tryz.func37 rfl rfl (cok_cons k_impl_LeadersValid Tryz.func40 rfl rfl (cok_cons k_impl_OrderSlots Tryz.func26 rfl rfl (cok_cons k_laws_hasSlot Tryz.func34 rfl rfl (cok_cons k_impl_CommitWaves Tryz.func32 rfl rfl (cok_cons k_laws_hasInt Tryz.func41 rfl rfl cok_nil))))))))) Tryz.func10 rfl rfl rfl ?_
  intro aargs hs Fs K h
  simp only [c_ordLaw] at h
  split at h
  case h_2 => exact h.elim
  rename_i b
  obtain ⟨rfl, p0, p1, p2, hE, hb, h⟩ := h
  repeat' (first|((conv=>whnf); (first|refine Exists.intro p0 (Exists.intro p1 (Exists.intro p2 (And.intro (err_app hE) ?_)))|refine brK_dec (fun _=>?_) (fun _=>?_)|refine brK_ndec (fun _=>?_) (fun _=>?_)|refine brK_not (fun _=>?_) (fun _=>?_)|refine brK_in (fun _=>?_) (fun _=>?_)|refine And.intro (by first|exact rfl|exact ⟨_,rfl,rfl⟩|exact ⟨rfl,rfl,rfl⟩|exact of_decide_eq_true rfl|exact trivial|assumption|omega|(show (_ ≤ _ ∧ _ ≤ _); omega)|(simp; omega)|exact ⟨by first|omega|(simp; omega),_,rfl,rfl⟩) ?_|refine Quo.l (And.intro (by first|exact rfl|assumption|omega|(simp; omega)) ?_)|refine Quo.r (And.intro (by omega) ?_)|refine Both.mk ?_ ?_|refine Exists.intro _ (And.intro rfl ?_)|refine opt_use (by assumption) ?_|refine fun _=>?_))|exact rfl)
  · exact h
  rename_i h1 c g L x y p3 p4 p5 p6
  have hgs := gfit_small p5
  have hsl := slotsP_len (c := c) (g := g) (L := L)
  have hsm := slotsP_map (c := c) (g := g) (L := L)
  have hwl := wavI_len (c := c) (g := g) (L := L)
  have hs2 : (slotsP c g L).length < 2000000000 := by omega
  repeat' (first|((conv=>whnf); (first|refine draw_plan (id := 10) [] [] (.take 0 (.take 1 (.take 2 (.take 3 (.take 4 (.take 6 (.run 5 (.run 7 (.take 8 (.take 9 (.take 10 (.take 11 (.take 12 (.take 13 (.take 14 (.take 15 (.take 17 (.run 16 (.run 18 (.take 19 (.take 20 (.take 21 .done)))))))))))))))))))))) (by kernel_rfl) (by kernel_rfl) ?_|refine Exists.intro p0 (Exists.intro p1 (Exists.intro p2 (And.intro (err_app hE) ?_)))|refine Exists.intro (slotsP c g L) (And.intro rfl (And.intro hs2 ?_))|refine brK_dec (fun _=>?_) (fun _=>?_)|refine brK_ndec (fun _=>?_) (fun _=>?_)|refine brK_not (fun _=>?_) (fun _=>?_)|refine brK_in (fun _=>?_) (fun _=>?_)|refine And.intro (by first|exact rfl|exact ⟨_,rfl,rfl⟩|exact ⟨rfl,rfl,rfl⟩|exact of_decide_eq_true rfl|exact trivial|assumption|omega|(show (_ ≤ _ ∧ _ ≤ _); omega)|(simp; omega)|exact ⟨by first|omega|(simp; omega),_,rfl,rfl⟩) ?_|refine Quo.l (And.intro (by first|exact rfl|assumption|omega|(simp; omega)) ?_)|refine Quo.r (And.intro (by omega) ?_)|refine Both.mk ?_ ?_|refine Exists.intro _ (And.intro rfl ?_)|refine opt_use (by assumption) ?_|refine fun _=>?_))|exact rfl)
  · simpa using h
  · exact h
  · rename_i hlt hge
    have e : (comV c && leadersV c L) = false := by
      cases hgv : gV c g with
      | false =>
        rw [hgv] at hge
        simp at hge
      | true =>
        rcases waveO_neg hlt with e | e
        · rw [okO, hgv, Bool.true_and] at e
          rw [e, Bool.and_false]
        · rw [if_pos hgv, fndA, e] at hge
          simp at hge
    rw [e]
    exact h
  · exact h
  · rename_i hneg _ hz
    rw [decide_eq_true ((waveO_mem hneg).2.resolve_left hz)]
    exact h
  · rename_i hneg hd
    exact absurd (waveO_mem hneg).1 hd
end Go.Proofs.YtkabnbjlglippaaGreatDoor
