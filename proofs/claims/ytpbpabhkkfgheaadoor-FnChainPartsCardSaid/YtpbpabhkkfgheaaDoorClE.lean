/-
The law that a chain can be checked in parts: its contract.
No conditions.
-/
import Derived.Test.YtpbpabhkkfgheaaDoorClA
namespace Go.Proofs.YtpbpabhkkfgheaaDoor
open Go Go.Vc
set_option maxHeartbeats 4000000
set_option maxRecDepth 10000
def c_laws_FnChainParts : Con := ⟨0, 0, false, fun xs hs Fs K => match xs with
  | [.bytes b0, .bytes b1] => hs = [] ∧ hasTab Fs ∧ b0.length ≤ 9223372036854775807 ∧ b1.length ≤ 9223372036854775807 ∧ K (B true) [] []
  | _ => False⟩
theorem k_laws_FnChainParts : Keeps' Tryd.prog 9 c_laws_FnChainParts := by
  refine keeps_of_vc mix TyT_ok (cok_cons k_spec_DrawChainCheck Tryd.func16 rfl rfl (cok_cons (keeps_nil k_impl_ChainCheck) Tryd.func17 rfl rfl (cok_cons k_spec_ChainCheck Tryd.func18 rfl rfl (cok_cons (keeps_nil k_laws_sameEpoch) Tryd.func19 rfl rfl cok_nil)))) Tryd.func9 rfl rfl rfl ?_
  intro aargs hs Fs K h
  simp only [c_laws_FnChainParts] at h
  split at h
  case h_2 => exact h.elim
  rename_i b0 b1
  obtain ⟨rfl, hT, hb0, hb1, h⟩ := h
  repeat' (first
    | ((conv => whnf); (first
      | refine draw_plan (id := 9) [] [] (.take 0 (.take 1 (.take 2 (.take 3 (.two 4 (.take 5 (.take 6 (.take 7 (.run 8 (.run 9 (.take 10 .done)))))) 8 (.run 4 (.take 5 (.take 6 (.take 7 (.run 9 (.take 10 .done))))))))))) (by kernel_rfl) (by kernel_rfl) ?_
      | refine draw_plan (id := 10) [] [] (.take 0 (.take 1 (.take 2 (.take 3 (.two 4 (.take 5 (.take 6 (.take 7 (.run 8 (.run 9 (.take 10 .done)))))) 8 (.run 4 (.take 5 (.take 6 (.take 7 (.run 9 (.take 10 .done))))))))))) (by kernel_rfl) (by kernel_rfl) ?_
      | refine brK_dec (fun _ => ?_) (fun _ => ?_)
      | refine brK_ndec (fun _ => ?_) (fun _ => ?_)
      | refine brK_not (fun _ => ?_) (fun _ => ?_)
      | refine brK_in (fun _ => ?_) (fun _ => ?_)
      | refine And.intro (by first | exact rfl | exact (tab_app hT) | exact ⟨_, rfl, rfl⟩ | exact ⟨rfl, rfl, rfl⟩ | exact of_decide_eq_true rfl | exact trivial | assumption | omega | (show (_ ≤ _ ∧ _ ≤ _); omega) | (simp; omega) | exact ⟨by first | omega | (simp; omega), _, rfl, rfl⟩) ?_
      | refine Both.mk ?_ ?_
      | refine Exists.intro _ (And.intro rfl ?_)
      | refine fun _ => ?_))
    | exact rfl)
  · exact h
  · exact h
  rename_i hc0 hc1 e ls he hls hl
  have hl1 := last_small he hls
  have hl2 := hl1.2
  have hl1 := hl1.1
  have he1 := he.1
  have he2 := he.2
  have hlen : (ls.map LkD.row).length = ls.length := by simp
  repeat' (first
    | ((conv => whnf); (first
      | refine draw_plan (id := 9) [] [] (.take 0 (.take 1 (.take 2 (.take 3 (.two 4 (.take 5 (.take 6 (.take 7 (.run 8 (.run 9 (.take 10 .done)))))) 8 (.run 4 (.take 5 (.take 6 (.take 7 (.run 9 (.take 10 .done))))))))))) (by kernel_rfl) (by kernel_rfl) ?_
      | refine draw_plan (id := 10) [] [] (.take 0 (.take 1 (.take 2 (.take 3 (.two 4 (.take 5 (.take 6 (.take 7 (.run 8 (.run 9 (.take 10 .done)))))) 8 (.run 4 (.take 5 (.take 6 (.take 7 (.run 9 (.take 10 .done))))))))))) (by kernel_rfl) (by kernel_rfl) ?_
      | refine brK_dec (fun _ => ?_) (fun _ => ?_)
      | refine brK_ndec (fun _ => ?_) (fun _ => ?_)
      | refine brK_not (fun _ => ?_) (fun _ => ?_)
      | refine brK_in (fun _ => ?_) (fun _ => ?_)
      | refine And.intro (by first | exact rfl | exact (by first | exact tab_app hT | exact hls) | exact ⟨_, rfl, rfl⟩ | exact ⟨rfl, rfl, rfl⟩ | exact of_decide_eq_true rfl | exact trivial | assumption | omega | (show (_ ≤ _ ∧ _ ≤ _); omega) | (simp; omega) | exact ⟨by first | omega | (simp; omega), _, rfl, rfl⟩) ?_
      | refine Both.mk ?_ ?_
      | refine Exists.intro _ (And.intro rfl ?_)
      | refine fun _ => ?_))
    | exact rfl)
  all_goals first
    | exact h
    | (exfalso; simp_all; done)
    | skip
  rename_i q1 q2 q3
  have q1 : accV e ls = true := q1
  have q1' := q1
  simp only [accV, Bool.and_eq_true] at q1'
  obtain ⟨hok, hch⟩ := q1'
  have hk0 : 0 ≤ (b1.length : Int) % (((ls.map LkD.row).length : Int) + 1) := Int.emod_nonneg _ (by omega)
  have hk1 : (b1.length : Int) % (((ls.map LkD.row).length : Int) + 1) < ((ls.map LkD.row).length : Int) + 1 := Int.emod_lt_of_pos _ (by omega)
  generalize (b1.length : Int) % (((ls.map LkD.row).length : Int) + 1) = k at *
  have hp := chainV_app (ls.take k.toNat) e (ls.drop k.toNat)
  rw [List.take_append_drop, hch] at hp
  have hp := Bool.and_eq_true_iff.1 hp.symm
  have hla := lastE_app e (ls.take k.toNat) (ls.drop k.toNat)
  rw [List.take_append_drop] at hla
  have h1 : accV ⟨e.n, e.c, e.k, e.r⟩ (ls.take k.toNat) = true := by
    show (e.ok && chainV e _) = true
    rw [hok, hp.1]; rfl
  have hok2 := chain_ok (ls.take k.toNat) e hok hp.1
  have h2 : accV (lastE e (ls.take k.toNat)) (ls.drop k.toNat) = true := by
    rw [accV, hok2, hp.2]; rfl
  have hsa : ∀ x ∈ ls.take k.toNat, x.small := fun x hx => hls x (List.mem_of_mem_take hx)
  have hsb : ∀ x ∈ ls.drop k.toNat, x.small := fun x hx => hls x (List.mem_of_mem_drop hx)
  have hta := last_small (ls := ls.take k.toNat) he hsa
  have hta1 := hta.1
  have hta2 := hta.2
  have g1 : List.take (k.toNat - 0) (List.drop 0 (ls.map LkD.row)) = (ls.take k.toNat).map LkD.row := by simp [List.map_take]
  have g2 : List.take ((ls.map LkD.row).length - k.toNat) (List.drop k.toNat (ls.map LkD.row)) = (ls.drop k.toNat).map LkD.row := by rw [List.map_drop]; exact List.take_of_length_le (by simp)
  have h2b : accV ⟨(lastE ⟨e.n, e.c, e.k, e.r⟩ (ls.take k.toNat)).n, (lastE ⟨e.n, e.c, e.k, e.r⟩ (ls.take k.toNat)).c, (lastE ⟨e.n, e.c, e.k, e.r⟩ (ls.take k.toNat)).k, (lastE ⟨e.n, e.c, e.k, e.r⟩ (ls.take k.toNat)).r⟩ (ls.drop k.toNat) = true := h2
  have hsc := last_small (e := lastE e (ls.take k.toNat)) (ls := ls.drop k.toNat) hta hsb
  have hsc1 := hsc.1
  have hsc2 := hsc.2
  have yes : ∀ P [Decidable P], P → K (B (decide P)) [] [] := fun P _ hP => by rw [decide_eq_true hP]; exact h
  repeat' (first
    | ((conv => whnf); (first
      | refine draw_plan (id := 9) [] [] (.take 0 (.take 1 (.take 2 (.take 3 (.two 4 (.take 5 (.take 6 (.take 7 (.run 8 (.run 9 (.take 10 .done)))))) 8 (.run 4 (.take 5 (.take 6 (.take 7 (.run 9 (.take 10 .done))))))))))) (by kernel_rfl) (by kernel_rfl) ?_
      | refine draw_plan (id := 10) [] [] (.take 0 (.take 1 (.take 2 (.take 3 (.two 4 (.take 5 (.take 6 (.take 7 (.run 8 (.run 9 (.take 10 .done)))))) 8 (.run 4 (.take 5 (.take 6 (.take 7 (.run 9 (.take 10 .done))))))))))) (by kernel_rfl) (by kernel_rfl) ?_
      | refine brK_dec (fun _ => ?_) (fun _ => ?_)
      | refine brK_ndec (fun _ => ?_) (fun _ => ?_)
      | refine brK_not (fun _ => ?_) (fun _ => ?_)
      | refine brK_in (fun _ => ?_) (fun _ => ?_)
      | refine And.intro (by first | exact rfl | exact (by first | exact tab_app hT | exact hsa | exact hsb) | exact ⟨_, rfl, rfl⟩ | exact ⟨rfl, rfl, rfl⟩ | exact of_decide_eq_true rfl | exact trivial | assumption | omega | (show (_ ≤ _ ∧ _ ≤ _); omega) | (simp; omega) | exact ⟨by first | omega | (simp; omega), _, rfl, rfl⟩) ?_
      | refine Both.mk ?_ ?_
      | refine Exists.intro _ (And.intro rfl ?_)
      | refine fun _ => ?_))
    | exact rfl)
  all_goals
    refine ⟨ls.take k.toNat, g1, ?_⟩
    repeat' (first
      | ((conv => whnf); (first
        | refine draw_plan (id := 9) [] [] (.take 0 (.take 1 (.take 2 (.take 3 (.two 4 (.take 5 (.take 6 (.take 7 (.run 8 (.run 9 (.take 10 .done)))))) 8 (.run 4 (.take 5 (.take 6 (.take 7 (.run 9 (.take 10 .done))))))))))) (by kernel_rfl) (by kernel_rfl) ?_
        | refine draw_plan (id := 10) [] [] (.take 0 (.take 1 (.take 2 (.take 3 (.two 4 (.take 5 (.take 6 (.take 7 (.run 8 (.run 9 (.take 10 .done)))))) 8 (.run 4 (.take 5 (.take 6 (.take 7 (.run 9 (.take 10 .done))))))))))) (by kernel_rfl) (by kernel_rfl) ?_
        | refine brK_dec (fun _ => ?_) (fun _ => ?_)
        | refine brK_ndec (fun _ => ?_) (fun _ => ?_)
        | refine brK_not (fun _ => ?_) (fun _ => ?_)
        | refine brK_in (fun _ => ?_) (fun _ => ?_)
        | refine And.intro (by first | exact rfl | exact (by first | exact tab_app hT | exact hsa | exact hsb) | exact ⟨_, rfl, rfl⟩ | exact ⟨rfl, rfl, rfl⟩ | exact of_decide_eq_true rfl | exact trivial | assumption | omega | (show (_ ≤ _ ∧ _ ≤ _); omega) | (simp; omega) | exact ⟨by first | omega | (simp; omega), _, rfl, rfl⟩) ?_
        | refine Both.mk (fun e => absurd (h1.symm.trans e) (by decide)) ?_
        | refine Both.mk ?_ (fun e => absurd (h1.symm.trans e) (by decide))
        | refine Both.mk ?_ ?_
        | refine Exists.intro _ (And.intro rfl ?_)
        | refine fun _ => ?_))
      | exact rfl)
  all_goals
    refine ⟨ls.drop k.toNat, g2, ?_⟩
    repeat' (first
      | ((conv => whnf); (first
        | refine draw_plan (id := 9) [] [] (.take 0 (.take 1 (.take 2 (.take 3 (.two 4 (.take 5 (.take 6 (.take 7 (.run 8 (.run 9 (.take 10 .done)))))) 8 (.run 4 (.take 5 (.take 6 (.take 7 (.run 9 (.take 10 .done))))))))))) (by kernel_rfl) (by kernel_rfl) ?_
        | refine draw_plan (id := 10) [] [] (.take 0 (.take 1 (.take 2 (.take 3 (.two 4 (.take 5 (.take 6 (.take 7 (.run 8 (.run 9 (.take 10 .done)))))) 8 (.run 4 (.take 5 (.take 6 (.take 7 (.run 9 (.take 10 .done))))))))))) (by kernel_rfl) (by kernel_rfl) ?_
        | refine brK_dec (fun _ => ?_) (fun _ => ?_)
        | refine brK_ndec (fun _ => ?_) (fun _ => ?_)
        | refine brK_not (fun _ => ?_) (fun _ => ?_)
        | refine brK_in (fun _ => ?_) (fun _ => ?_)
        | refine And.intro (by first | exact rfl | exact (by first | exact tab_app hT | exact hsa | exact hsb) | exact ⟨_, rfl, rfl⟩ | exact ⟨rfl, rfl, rfl⟩ | exact of_decide_eq_true rfl | exact trivial | assumption | omega | (show (_ ≤ _ ∧ _ ≤ _); omega) | (simp; omega) | exact ⟨by first | omega | (simp; omega), _, rfl, rfl⟩) ?_
        | refine Both.mk (fun e => absurd (h2b.symm.trans e) (by decide)) ?_
        | refine Both.mk ?_ (fun e => absurd (h2b.symm.trans e) (by decide))
        | refine Both.mk ?_ ?_
        | refine Exists.intro _ (And.intro rfl ?_)
        | refine fun _ => ?_))
      | exact rfl)
  all_goals first
    | exact h
    | exact yes _ ⟨congrArg EpD.n hla.symm, congrArg EpD.c hla.symm, congrArg EpD.k hla.symm, congrArg EpD.r hla.symm⟩
    | (exfalso; simp_all; done)
end Go.Proofs.YtpbpabhkkfgheaaDoor
