/-
The law that a link needs a quorum: its contract.
No conditions.
-/
import Derived.Test.YtbpnfmpbaohklaaDoorLrA
namespace Go.Proofs.YtbpnfmpbaohklaaDoor
open Go Go.Vc
set_option maxHeartbeats 4000000
set_option maxRecDepth 10000
theorem set0_get (l : List Int) (m j : Nat) : (l.set m 0).getD j 0 = if j = m then 0 else l.getD j 0 := by
  simp only [List.getD_eq_getElem?_getD, List.getElem?_set]
  by_cases e : m = j
  · subst e
    by_cases h : m < l.length <;> simp [h]
  · rw [if_neg e, if_neg fun h => e h.symm]
def c_laws_FnLinkQuorum : Con := ⟨0, 0, false, fun xs hs Fs K => match xs with
  | [.bytes b] => hs = [] ∧ hasTab Fs ∧ b.length ≤ 9223372036854775807 ∧ K (B true) [] []
  | _ => False⟩
theorem k_laws_FnLinkQuorum : Keeps' Tryd.prog 8 c_laws_FnLinkQuorum := by
  refine keeps_of_vc mix TyT_ok (cok_cons k_spec_DrawLinkMake Tryd.func36 rfl rfl (cok_cons k_impl_LinkMake Tryd.func29 rfl rfl (cok_cons k_spec_LinkMake Tryd.func27 rfl rfl (cok_cons (keeps_nil k_laws_sameLink) Tryd.func37 rfl rfl (cok_cons k_impl_MembersWeight Tryd.func34 rfl rfl (cok_cons k_impl_CommitteeQuorum Tryd.func38 rfl rfl cok_nil)))))) Tryd.func8 rfl rfl rfl ?_
  intro aargs hs Fs K h
  simp only [c_laws_FnLinkQuorum] at h
  split at h
  case h_2 => exact h.elim
  rename_i b
  obtain ⟨rfl, hT, hb, h⟩ := h
  repeat' (first
    | ((conv => whnf); (first
      | refine draw_plan (id := 14) [] [] (.take 0 (.take 1 (.take 2 (.take 3 (.take 4 (.take 6 (.take 7 (.run 5 (.run 8 (.take 9 (.take 10 (.take 11 (.take 12 (.take 13 (.take 14 .done))))))))))))))) (by kernel_rfl) (by kernel_rfl) ?_
      | refine brK_dec (fun _ => ?_) (fun _ => ?_)
      | refine brK_ndec (fun _ => ?_) (fun _ => ?_)
      | refine brK_not (fun _ => ?_) (fun _ => ?_)
      | refine brK_in (fun _ => ?_) (fun _ => ?_)
      | refine And.intro (by first | exact rfl | exact (by first | exact tab_app hT | exact sgn_lt (by assumption)) | exact ⟨_, rfl, rfl⟩ | exact ⟨rfl, rfl, rfl⟩ | exact of_decide_eq_true rfl | exact trivial | assumption | omega | (show (_ ≤ _ ∧ _ ≤ _); omega) | (simp; omega) | exact ⟨by first | omega | (simp; omega), _, rfl, rfl⟩) ?_
      | refine Both.mk ?_ ?_
      | refine Exists.intro _ (And.intro rfl ?_)
      | refine fun _ => ?_))
    | exact rfl)
  all_goals first
    | exact h
    | (exfalso; simp_all; done)
    | skip
  rename_i hb2 n c k r n2 c2 k2 r2 s z1 z2 z3 z4 z5 e1 e2 e3
  have hG : ∀ {i : Nat} {x : Int}, (sgnL (sgnS (digE n2 c2 k2 r2) s) c.length)[i]? = some x → 0 ≤ x ∧ x < s.length := fun h => by
    have h1 := sgnL_mem (List.mem_of_getElem? h)
    have h2 : s.length = c.length := by
      have e1 := e1
      simp only [lmkV, Bool.and_eq_true, decide_eq_true_eq] at e1
      exact e1.2.2.2.1
    omega
  have hGl := sgnL_len (sgnS (digE n2 c2 k2 r2) s) c.length
  obtain ⟨hv1, hv2, hv3⟩ := link_heavy e1
  have hno : ∀ t : List Int, (∀ x ∈ sgnL (sgnS (digE n2 c2 k2 r2) s) c.length, t.getD x.toNat 0 = 0) → (∀ j, t.getD j 0 = s.getD j 0 ∨ t.getD j 0 = 0) → lmkV n c k r n2 c2 k2 r2 t = false := fun t => none_made
  generalize hGe : sgnL (sgnS (digE n2 c2 k2 r2) s) c.length = G at *
  refine loop_in (ι := Nat × List Int) (fun g => mkS 98 [(3, .ptr 0 0), (4, .ptr 1 0), (6, .ptr 2 0), (7, B true), (10, .own 3), (11, I g.1)] [.cells [I n, .ints c, .ints k, I r], .cells [I n2, .ints c2, .ints k2, I r2], .cells [I n2, .ints c2, .ints k2, I r2, I (digE n2 c2 k2 r2), .ints G, I ((sgnS (digE n2 c2 k2 r2) s).sum % 997)], .iarr g.2] Fs)
    (fun g => g.1 ≤ G.length ∧ g.2.length = s.length ∧ (∀ x ∈ G.take g.1, g.2.getD x.toNat 0 = 0) ∧ ∀ j, g.2.getD j 0 = s.getD j 0 ∨ g.2.getD j 0 = 0) (fun g => G.length - g.1) (0, s) [5, 6, 10, 15] ⟨by simp, rfl, by simp, fun j => .inl rfl⟩ ?_ ?_
  · repeat' (first
      | ((conv => whnf); (first
        | refine brK_dec (fun _ => ?_) (fun _ => ?_)
        | refine brK_ndec (fun _ => ?_) (fun _ => ?_)
        | refine brK_not (fun _ => ?_) (fun _ => ?_)
        | refine brK_in (fun _ => ?_) (fun _ => ?_)
        | refine And.intro (by first | exact rfl | exact ⟨_, rfl, rfl⟩ | exact ⟨rfl, rfl, rfl⟩ | exact of_decide_eq_true rfl | exact trivial | assumption | omega | (show (_ ≤ _ ∧ _ ≤ _); omega) | (simp; omega) | exact ⟨by first | omega | (simp; omega), _, rfl, rfl⟩) ?_
        | refine Both.mk ?_ ?_
        | refine Exists.intro _ (And.intro rfl ?_)
        | refine fun _ => ?_))
      | exact rfl)
  rintro ⟨i, t⟩ ⟨hi, ht, hz, hs⟩
  dsimp only at hi ht hz hs ⊢
  repeat' (first
    | ((conv => whnf); (first
      | refine draw_plan (id := 14) [] [] (.take 0 (.take 1 (.take 2 (.take 3 (.take 4 (.take 6 (.take 7 (.run 5 (.run 8 (.take 9 (.take 10 (.take 11 (.take 12 (.take 13 (.take 14 .done))))))))))))))) (by kernel_rfl) (by kernel_rfl) ?_
      | refine brK_dec (fun _ => ?_) (fun _ => ?_)
      | refine brK_ndec (fun _ => ?_) (fun _ => ?_)
      | refine brK_not (fun _ => ?_) (fun _ => ?_)
      | refine brK_in (fun _ => ?_) (fun _ => ?_)
      | refine And.intro (by first | exact rfl | exact (by first | exact tab_app hT | exact (hG (by assumption)).1 | exact ⟨by rw [ht]; exact (hG (by assumption)).2, _, rfl, rfl⟩) | exact ⟨_, rfl, rfl⟩ | exact ⟨rfl, rfl, rfl⟩ | exact of_decide_eq_true rfl | exact trivial | assumption | omega | (show (_ ≤ _ ∧ _ ≤ _); omega) | (simp; omega) | exact ⟨by first | omega | (simp; omega), _, rfl, rfl⟩) ?_
      | refine Both.mk ?_ ?_
      | refine Exists.intro _ (And.intro rfl ?_)
      | refine fun _ => ?_))
    | exact rfl)
  · rename_i hil x hx
    have hx : G[i]? = some x := hx
    have hgx := hG hx
    refine ⟨(i + 1, t.set x.toNat 0), [0, 1, 2, 3], ⟨by dsimp only; omega, by dsimp only; simp; omega, fun y hy => ?_, fun j => ?_⟩, by dsimp only; omega, ?_⟩
    · dsimp only at hy ⊢
      rw [set0_get]
      split
      · rfl
      · rename_i hne
        rw [List.take_add_one, hx] at hy
        rcases List.mem_append.1 hy with hy | hy
        · exact hz y hy
        · simp at hy
          exact absurd (by rw [hy]) hne
    · dsimp only
      rw [set0_get]
      split
      · exact .inr rfl
      · exact hs j
    · repeat' (first
        | ((conv => whnf); (first
          | refine brK_dec (fun _ => ?_) (fun _ => ?_)
          | refine brK_ndec (fun _ => ?_) (fun _ => ?_)
          | refine brK_not (fun _ => ?_) (fun _ => ?_)
          | refine brK_in (fun _ => ?_) (fun _ => ?_)
          | refine And.intro (by first | exact rfl | exact ⟨_, rfl, rfl⟩ | exact ⟨rfl, rfl, rfl⟩ | exact of_decide_eq_true rfl | exact trivial | assumption | omega | (show (_ ≤ _ ∧ _ ≤ _); omega) | (simp; omega) | exact ⟨by first | omega | (simp; omega), _, rfl, rfl⟩) ?_
          | refine Both.mk ?_ ?_
          | refine Exists.intro _ (And.intro rfl ?_)
          | refine fun _ => ?_))
        | exact rfl)
  all_goals rename_i hil q1 q2
  all_goals rw [List.take_of_length_le (by omega)] at hz
  all_goals rw [hno t hz hs] at q1
  · cases q1
  · cases q1
  · exact h
  · rw [hv1, hv2] at q2
    simp only [Bool.and_self, if_true] at q2
    omega
end Go.Proofs.YtbpnfmpbaohklaaDoor
