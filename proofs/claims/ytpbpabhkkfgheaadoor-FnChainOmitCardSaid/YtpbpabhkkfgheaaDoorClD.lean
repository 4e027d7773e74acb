/-
The law that no link can be omitted: its contract.
No conditions.
-/
import Derived.Test.YtpbpabhkkfgheaaDoorClA
namespace Go.Proofs.YtpbpabhkkfgheaaDoor
open Go Go.Vc
set_option maxHeartbeats 4000000
set_option maxRecDepth 10000
theorem chain_pre {e : EpD} {ls : List LkD} (h : chainV e ls = true) (i : Nat) : chainV e (ls.take i) = true := by
  have h1 := chainV_app (ls.take i) e (ls.drop i)
  rw [List.take_append_drop, h] at h1
  cases hc : chainV e (ls.take i)
  · rw [hc] at h1; cases h1
  · rfl
theorem chain_omit {e : EpD} {ls : List LkD} {k : Nat} (h : chainV e ls = true) (hk : k + 1 < ls.length) : chainV e (ls.take k ++ ls.drop (k + 1)) = false := by
  rw [chainV_app, List.drop_eq_getElem_cons hk, chainV]
  have hx : ls[k + 1]? = some ls[k + 1] := List.getElem?_eq_getElem hk
  have n1 := chain_num (ls.take k) e (chain_pre h k)
  have n2 := chain_num (ls.take (k + 1 + 1)) e (chain_pre h (k + 1 + 1))
  rw [lastE_take hx] at n2
  rw [List.length_take] at n1 n2
  have e1 : lkD (lastE e (ls.take k)) ls[k + 1] = false := by
    unfold lkD lkV
    rw [decide_eq_false (show ¬ ls[k + 1].e.n = (lastE e (ls.take k)).n + 1 by omega)]
    simp
  rw [e1]
  simp
def c_laws_FnChainOmit : Con := ⟨0, 0, false, fun xs hs Fs K => match xs with
  | [.bytes b0, .bytes b1] => hs = [] ∧ hasTab Fs ∧ b0.length ≤ 9223372036854775807 ∧ b1.length ≤ 9223372036854775807 ∧ K (B true) [] []
  | _ => False⟩
theorem k_laws_FnChainOmit : Keeps' Tryd.prog 8 c_laws_FnChainOmit := by
  refine keeps_of_vc mix TyT_ok (cok_cons k_spec_DrawChainCheck Tryd.func16 rfl rfl (cok_cons k_impl_ChainCheck Tryd.func17 rfl rfl (cok_cons k_spec_ChainCheck Tryd.func18 rfl rfl (cok_cons (keeps_nil k_laws_sameEpoch) Tryd.func19 rfl rfl cok_nil)))) Tryd.func8 rfl rfl rfl ?_
  intro aargs hs Fs K h
  simp only [c_laws_FnChainOmit] at h
  split at h
  case h_2 => exact h.elim
  rename_i b0 b1
  obtain ⟨rfl, hT, hb0, hb1, h⟩ := h
  repeat' (first
    | ((conv => whnf); (first
      | refine draw_plan (id := 9) [] [] (.take 0 (.take 2 (.take 3 (.take 4 (.take 6 (.take 7 (.take 8 (.take 9 (.two 1 (.two 5 (.two 10 (.two 11 (.take 12 (.take 13 (.take 14 (.run 15 (.run 16 (.take 17 .done)))))) 15 (.run 11 (.take 12 (.take 13 (.take 14 (.run 16 (.take 17 .done))))))) 15 (.run 10 (.run 11 (.take 12 (.take 13 (.take 14 (.run 16 (.take 17 .done)))))))) 15 (.run 5 (.run 10 (.run 11 (.take 12 (.take 13 (.take 14 (.run 16 (.take 17 .done))))))))) 15 (.run 1 (.run 5 (.run 10 (.run 11 (.take 12 (.take 13 (.take 14 (.run 16 (.take 17 .done)))))))))))))))))) (by kernel_rfl) (by kernel_rfl) ?_
      | refine brK_dec (fun _ => ?_) (fun _ => ?_)
      | refine brK_ndec (fun _ => ?_) (fun _ => ?_)
      | refine brK_not (fun _ => ?_) (fun _ => ?_)
      | refine brK_in (fun _ => ?_) (fun _ => ?_)
      | refine And.intro (by first | exact rfl | exact (tab_app hT) | exact ⟨_, rfl, rfl⟩ | exact ⟨rfl, rfl, rfl⟩ | exact of_decide_eq_true rfl | exact trivial | assumption | omega | (show (_ ≤ _ ∧ _ ≤ _); omega) | (simp; omega) | exact ⟨by first | omega | (simp; omega), _, rfl, rfl⟩) ?_
      | refine Both.mk ?_ ?_
      | refine Exists.intro _ (And.intro rfl ?_)
      | refine fun _ => ?_))
    | exact rfl)
  · exact h
  · exact h
  rename_i hc0 hc1 e ls he hls hl
  have hl1 := last_small he hls
  have hl2 := hl1.2
  have hl1 := hl1.1
  have he1 := he.1
  have he2 := he.2
  have hlen : (ls.map LkD.row).length = ls.length := by simp
  repeat' (first
    | ((conv => whnf); (first
      | refine draw_plan (id := 9) [] [] (.take 0 (.take 2 (.take 3 (.take 4 (.take 6 (.take 7 (.take 8 (.take 9 (.two 1 (.two 5 (.two 10 (.two 11 (.take 12 (.take 13 (.take 14 (.run 15 (.run 16 (.take 17 .done)))))) 15 (.run 11 (.take 12 (.take 13 (.take 14 (.run 16 (.take 17 .done))))))) 15 (.run 10 (.run 11 (.take 12 (.take 13 (.take 14 (.run 16 (.take 17 .done)))))))) 15 (.run 5 (.run 10 (.run 11 (.take 12 (.take 13 (.take 14 (.run 16 (.take 17 .done))))))))) 15 (.run 1 (.run 5 (.run 10 (.run 11 (.take 12 (.take 13 (.take 14 (.run 16 (.take 17 .done)))))))))))))))))) (by kernel_rfl) (by kernel_rfl) ?_
      | refine brK_dec (fun _ => ?_) (fun _ => ?_)
      | refine brK_ndec (fun _ => ?_) (fun _ => ?_)
      | refine brK_not (fun _ => ?_) (fun _ => ?_)
      | refine brK_in (fun _ => ?_) (fun _ => ?_)
      | refine And.intro (by first | exact rfl | exact (by first | exact tab_app hT | exact hls) | exact ⟨_, rfl, rfl⟩ | exact ⟨rfl, rfl, rfl⟩ | exact of_decide_eq_true rfl | exact trivial | assumption | omega | (show (_ ≤ _ ∧ _ ≤ _); omega) | (simp; omega) | exact ⟨by first | omega | (simp; omega), _, rfl, rfl⟩) ?_
      | refine Both.mk ?_ ?_
      | refine Exists.intro _ (And.intro rfl ?_)
      | refine fun _ => ?_))
    | exact rfl)
  all_goals first
    | exact h
    | (exfalso; simp_all; done)
    | skip
  · rename_i q1 q2 q3 q4
    rw [decide_eq_true ⟨rfl, rfl, rfl, rfl⟩]
    exact h
  rename_i q1 q2 q3 q4
  have q1 : accV e ls = true := q1
  have q1' := q1
  simp only [accV, Bool.and_eq_true] at q1'
  obtain ⟨hok, hch⟩ := q1'
  have hok' : EpV e.n e.c e.k e.r = true := hok
  obtain ⟨⟨n0, n1⟩, _⟩ := EpV_out hok'
  have hk0 : 0 ≤ (b1.length : Int) % (((ls.map LkD.row).length : Int) - 1) := Int.emod_nonneg _ (by omega)
  have hk1 : (b1.length : Int) % (((ls.map LkD.row).length : Int) - 1) < ((ls.map LkD.row).length : Int) - 1 := Int.emod_lt_of_pos _ (by omega)
  generalize (b1.length : Int) % (((ls.map LkD.row).length : Int) - 1) = k at *
  repeat' (first
    | ((conv => whnf); (first
      | refine draw_plan (id := 9) [] [] (.take 0 (.take 2 (.take 3 (.take 4 (.take 6 (.take 7 (.take 8 (.take 9 (.two 1 (.two 5 (.two 10 (.two 11 (.take 12 (.take 13 (.take 14 (.run 15 (.run 16 (.take 17 .done)))))) 15 (.run 11 (.take 12 (.take 13 (.take 14 (.run 16 (.take 17 .done))))))) 15 (.run 10 (.run 11 (.take 12 (.take 13 (.take 14 (.run 16 (.take 17 .done)))))))) 15 (.run 5 (.run 10 (.run 11 (.take 12 (.take 13 (.take 14 (.run 16 (.take 17 .done))))))))) 15 (.run 1 (.run 5 (.run 10 (.run 11 (.take 12 (.take 13 (.take 14 (.run 16 (.take 17 .done)))))))))))))))))) (by kernel_rfl) (by kernel_rfl) ?_
      | refine brK_dec (fun _ => ?_) (fun _ => ?_)
      | refine brK_ndec (fun _ => ?_) (fun _ => ?_)
      | refine brK_not (fun _ => ?_) (fun _ => ?_)
      | refine brK_in (fun _ => ?_) (fun _ => ?_)
      | refine And.intro (by first | exact rfl | exact (by first | exact tab_app hT | exact Nat.le_trans (Nat.mul_le_mul_right _ (show _ ≤ 100 from by simp [chunks]; omega)) (by decide) | (simp [chunks]; omega)) | exact ⟨_, rfl, rfl⟩ | exact ⟨rfl, rfl, rfl⟩ | exact of_decide_eq_true rfl | exact trivial | assumption | omega | (show (_ ≤ _ ∧ _ ≤ _); omega) | (simp; omega) | exact ⟨by first | omega | (simp; omega), _, rfl, rfl⟩) ?_
      | refine Both.mk ?_ ?_
      | refine Exists.intro _ (And.intro rfl ?_)
      | refine fun _ => ?_))
    | exact rfl)
  all_goals
    have f1 : List.take (min k.toNat ls.length) (List.take k.toNat (ls.map LkD.row)) = List.take k.toNat (ls.map LkD.row) := List.take_of_length_le (by simp)
    have f2 : List.take (ls.length - (k + 1).toNat) (List.drop (k + 1).toNat (ls.map LkD.row)) = List.drop (k + 1).toNat (ls.map LkD.row) := List.take_of_length_le (by simp)
    have hsm2 : ∀ x ∈ ls.take k.toNat ++ ls.drop (k + 1).toNat, x.small := fun x hx => (List.mem_append.1 hx).elim (fun q => hls x (List.mem_of_mem_take q)) fun q => hls x (List.mem_of_mem_drop q)
    have hom : accV ⟨e.n, e.c, e.k, e.r⟩ (ls.take k.toNat ++ ls.drop (k + 1).toNat) = false := by
      have h1 := chain_omit (k := k.toNat) hch (by omega)
      have h2 : (k + 1).toNat = k.toNat + 1 := by omega
      rw [h2]
      show (_ && chainV e _) = false
      rw [h1, Bool.and_false]
    refine ⟨ls.take k.toNat ++ ls.drop (k + 1).toNat, ?_, ?_⟩
    rotate_left
    repeat' (first
      | ((conv => whnf); (first
        | refine draw_plan (id := 9) [] [] (.take 0 (.take 2 (.take 3 (.take 4 (.take 6 (.take 7 (.take 8 (.take 9 (.two 1 (.two 5 (.two 10 (.two 11 (.take 12 (.take 13 (.take 14 (.run 15 (.run 16 (.take 17 .done)))))) 15 (.run 11 (.take 12 (.take 13 (.take 14 (.run 16 (.take 17 .done))))))) 15 (.run 10 (.run 11 (.take 12 (.take 13 (.take 14 (.run 16 (.take 17 .done)))))))) 15 (.run 5 (.run 10 (.run 11 (.take 12 (.take 13 (.take 14 (.run 16 (.take 17 .done))))))))) 15 (.run 1 (.run 5 (.run 10 (.run 11 (.take 12 (.take 13 (.take 14 (.run 16 (.take 17 .done)))))))))))))))))) (by kernel_rfl) (by kernel_rfl) ?_
        | refine brK_dec (fun _ => ?_) (fun _ => ?_)
        | refine brK_ndec (fun _ => ?_) (fun _ => ?_)
        | refine brK_not (fun _ => ?_) (fun _ => ?_)
        | refine brK_in (fun _ => ?_) (fun _ => ?_)
        | refine And.intro (by first | exact rfl | exact (by first | exact tab_app hT | exact hsm2 | exact Nat.le_trans (Nat.mul_le_mul_right _ (show _ ≤ 100 from by simp [chunks]; omega)) (by decide) | (simp [chunks]; omega)) | exact ⟨_, rfl, rfl⟩ | exact ⟨rfl, rfl, rfl⟩ | exact of_decide_eq_true rfl | exact trivial | assumption | omega | (show (_ ≤ _ ∧ _ ≤ _); omega) | (simp; omega) | exact ⟨by first | omega | (simp; omega), _, rfl, rfl⟩) ?_
        | refine Both.mk (fun e => absurd (hom.symm.trans e) (by decide)) ?_
        | refine Both.mk ?_ (fun e => absurd (hom.symm.trans e) (by decide))
        | refine Both.mk ?_ ?_
        | refine Exists.intro _ (And.intro rfl ?_)
        | refine fun _ => ?_))
      | exact rfl)
    all_goals first
      | exact h
      | (rw [List.map_append, List.map_take, List.map_drop]; simp [chunks]; rw [f1, f2]; done)
end Go.Proofs.YtpbpabhkkfgheaaDoor
