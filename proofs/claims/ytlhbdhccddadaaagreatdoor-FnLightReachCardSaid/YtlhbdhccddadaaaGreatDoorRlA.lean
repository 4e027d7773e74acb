/-
The laws on how far a reader comes: FnLightReachAll, FnLightReach.
No conditions.
-/
import Derived.Test.YtlhbdhccddadaaaGreatDoorAsD
import Derived.Test.YtlhbdhccddadaaaGreatDoorClA
namespace Go.Proofs.YtlhbdhccddadaaaGreatDoor
open Go Go.Vc
set_option maxHeartbeats 4000000
set_option maxRecDepth 10000
theorem rch_le (e : EpD) (ls : List LkD) : rchV e ls ≤ ls.length := by
  have := reachN_le ls e
  unfold rchV
  split <;> omega
theorem rch_all (e : EpD) (ls : List LkD) : accV e ls = decide (rchV e ls = (ls.length : Int)) := by
  have h := chain_prefix ls e ls.length (Nat.le_refl _)
  rw [List.take_length] at h
  have h2 := reachN_le ls e
  cases hk : e.ok with
  | false =>
    have e1 : rchV e ls = -1 := by simp [rchV, hk]
    have : ¬ (-1 = (ls.length : Int)) := by omega
    rw [accV, hk, e1, Bool.false_and, decide_eq_false this]
  | true =>
    have e1 : rchV e ls = (reachN e ls : Int) := by simp [rchV, hk]
    rw [accV, hk, Bool.true_and, e1]
    cases hc : chainV e ls with
    | true =>
      have := h.1 hc
      rw [decide_eq_true (by omega)]
    | false =>
      rw [decide_eq_false]
      intro h3
      rw [h.2 (by omega)] at hc
      cases hc
theorem rch_pre (e : EpD) (ls : List LkD) (k : Nat) (hk : k ≤ ls.length) (h0 : ¬ rchV e ls < 0) : accV e (ls.take k) = decide ((k : Int) ≤ rchV e ls) := by
  have h := chain_prefix ls e k hk
  have hok : e.ok = true := by
    cases hq : e.ok with
    | true => rfl
    | false => exact absurd (show rchV e ls < 0 by simp [rchV, hq]) h0
  have e1 : rchV e ls = (reachN e ls : Int) := by simp [rchV, hok]
  rw [accV, hok, Bool.true_and, e1]
  cases hc : chainV e (ls.take k) with
  | true =>
    have := h.1 hc
    rw [decide_eq_true (by omega)]
  | false =>
    rw [decide_eq_false]
    intro h3
    rw [h.2 (by omega)] at hc
    cases hc
theorem k_spec_DrawLightReach : Keeps' Tryz.prog 8 c_spec_DrawChainCheck := by
  refine keeps_of_vc mix TyT_ok (cok_cons k_spec_DrawChainCheck Tryz.func22 rfl rfl cok_nil) Tryz.func8 rfl rfl rfl ?_
  intro aargs hs Fs K h
  simp only [c_spec_DrawChainCheck] at h
  split at h
  case h_2 => exact h.elim
  rename_i b
  obtain ⟨rfl, hb, h⟩ := h
  repeat' (first
    | ((conv => whnf); (first
      | refine brK_dec (fun _ => ?_) (fun _ => ?_)
      | refine brK_ndec (fun _ => ?_) (fun _ => ?_)
      | refine brK_not (fun _ => ?_) (fun _ => ?_)
      | refine brK_in (fun _ => ?_) (fun _ => ?_)
      | refine And.intro (by first | exact rfl | exact ⟨_, rfl, rfl⟩ | exact ⟨rfl, rfl, rfl⟩ | exact of_decide_eq_true rfl | exact trivial | assumption | omega | (show (_ ≤ _ ∧ _ ≤ _); omega) | (simp; omega) | exact ⟨by first | omega | (simp; omega), _, rfl, rfl⟩) ?_
      | refine Both.mk ?_ ?_
      | refine Exists.intro _ (And.intro rfl ?_)
      | refine fun _ => ?_))
    | exact rfl)
  rename_i e ls h1 h2 h3
  exact h e ls h1 h2 h3
def c_laws_FnLightReachAll : Con := ⟨0, 0, false, fun xs hs Fs K => match xs with
  | [.bytes b] => hs = [] ∧ (hasTab Fs ∧ hasEt Fs) ∧ b.length ≤ 9223372036854775807 ∧ K (B true) [] []
  | _ => False⟩
theorem k_laws_FnLightReachAll : Keeps' Tryz.prog 3 c_laws_FnLightReachAll := by
  refine keeps_of_vc mix TyT_ok (cok_cons k_spec_DrawLightReach Tryz.func8 rfl rfl (cok_cons k_impl_LightReach Tryz.func9 rfl rfl (cok_cons k_spec_LightReach Tryz.func10 rfl rfl (cok_cons k_impl_ChainCheck Tryz.func11 rfl rfl cok_nil)))) Tryz.func3 rfl rfl rfl ?_
  intro aargs hs Fs K h
  simp only [c_laws_FnLightReachAll] at h
  split at h
  case h_2 => exact h.elim
  rename_i b
  obtain ⟨rfl, ⟨hT, hE⟩, hb, h⟩ := h
  have yes : ∀ {b : Bool}, b = true → K (B b) [] [] := fun e => by rw [e]; exact h
  repeat' (first
    | ((conv => whnf); (first
      | refine brK_dec (fun _ => ?_) (fun _ => ?_)
      | refine brK_ndec (fun _ => ?_) (fun _ => ?_)
      | refine brK_not (fun _ => ?_) (fun _ => ?_)
      | refine brK_in (fun _ => ?_) (fun _ => ?_)
      | refine And.intro (by first | exact rfl | exact ⟨_, rfl, rfl⟩ | exact ⟨rfl, rfl, rfl⟩ | exact of_decide_eq_true rfl | exact trivial | assumption | omega | (show (_ ≤ _ ∧ _ ≤ _); omega) | (simp; omega) | exact ⟨by first | omega | (simp; omega), _, rfl, rfl⟩) ?_
      | refine Both.mk ?_ ?_
      | refine Exists.intro _ (And.intro rfl ?_)
      | refine fun _ => ?_))
    | exact rfl)
  · exact h
  rename_i hb2 e ls he hls hl
  have hl1 := last_small he hls
  have hl2 := hl1.2
  have hl1 := hl1.1
  have he1 := he.1
  have he2 := he.2
  have hlen : (ls.map LkD.row).length = ls.length := by simp
  have hall : accV ⟨e.n, e.c, e.k, e.r⟩ ls = decide (rchV ⟨e.n, e.c, e.k, e.r⟩ ls = ((ls.map LkD.row).length : Int)) := by
    rw [hlen]
    exact rch_all _ _
  repeat' (first
    | ((conv => whnf); (first
      | refine brK_dec (fun _ => ?_) (fun _ => ?_)
      | refine brK_ndec (fun _ => ?_) (fun _ => ?_)
      | refine brK_not (fun _ => ?_) (fun _ => ?_)
      | refine brK_in (fun _ => ?_) (fun _ => ?_)
      | refine And.intro (by first | exact rfl | exact (by first | exact tab_app hT | exact et_app hE | exact hls) | exact ⟨_, rfl, rfl⟩ | exact ⟨rfl, rfl, rfl⟩ | exact of_decide_eq_true rfl | exact trivial | assumption | omega | (show (_ ≤ _ ∧ _ ≤ _); omega) | (simp; omega) | exact ⟨by first | omega | (simp; omega), _, rfl, rfl⟩) ?_
      | refine Both.mk ?_ ?_
      | refine Exists.intro _ (And.intro rfl ?_)
      | refine fun _ => ?_))
    | exact rfl)
  · rename_i q
    exact absurd rfl q
  · rename_i q q2
    exact yes (by rw [← hall, q2]; rfl)
  · rename_i q q2
    exact yes (by rw [← hall, q2]; rfl)
theorem k_laws_FnLightReach : Keeps' Tryz.prog 7 c_laws_FnLightReachAll := by
  refine keeps_of_vc mix TyT_ok (cok_cons k_spec_DrawLightReach Tryz.func8 rfl rfl (cok_cons k_impl_LightReach Tryz.func9 rfl rfl (cok_cons k_spec_LightReach Tryz.func10 rfl rfl (cok_cons k_impl_ChainCheck Tryz.func11 rfl rfl cok_nil)))) Tryz.func7 rfl rfl rfl ?_
  intro aargs hs Fs K h
  simp only [c_laws_FnLightReachAll] at h
  split at h
  case h_2 => exact h.elim
  rename_i b
  obtain ⟨rfl, ⟨hT, hE⟩, hb, h⟩ := h
  have yes : ∀ {b : Bool}, b = true → K (B b) [] [] := fun e => by rw [e]; exact h
  repeat' (first
    | ((conv => whnf); (first
      | refine draw_plan (id := 11) [] [] (.take 0 (.take 1 (.take 2 (.take 3 (.two 4 (.take 5 (.take 6 (.take 7 (.run 8 (.run 9 (.take 10 .done)))))) 8 (.run 4 (.take 5 (.take 6 (.take 7 (.run 9 (.take 10 .done))))))))))) (by kernel_rfl) (by kernel_rfl) ?_
      | refine brK_dec (fun _ => ?_) (fun _ => ?_)
      | refine brK_ndec (fun _ => ?_) (fun _ => ?_)
      | refine brK_not (fun _ => ?_) (fun _ => ?_)
      | refine brK_in (fun _ => ?_) (fun _ => ?_)
      | refine And.intro (by first | exact rfl | exact ⟨_, rfl, rfl⟩ | exact ⟨rfl, rfl, rfl⟩ | exact of_decide_eq_true rfl | exact trivial | assumption | omega | (show (_ ≤ _ ∧ _ ≤ _); omega) | (simp; omega) | exact ⟨by first | omega | (simp; omega), _, rfl, rfl⟩) ?_
      | refine Both.mk ?_ ?_
      | refine Exists.intro _ (And.intro rfl ?_)
      | refine fun _ => ?_))
    | exact rfl)
  · exact h
  rename_i hb2 e ls he hls hl
  have he1 := he.1
  have he2 := he.2
  have hlen : (ls.map LkD.row).length = ls.length := by simp
  repeat' (first
    | ((conv => whnf); (first
      | refine draw_plan (id := 11) [] [] (.take 0 (.take 1 (.take 2 (.take 3 (.two 4 (.take 5 (.take 6 (.take 7 (.run 8 (.run 9 (.take 10 .done)))))) 8 (.run 4 (.take 5 (.take 6 (.take 7 (.run 9 (.take 10 .done))))))))))) (by kernel_rfl) (by kernel_rfl) ?_
      | refine brK_dec (fun _ => ?_) (fun _ => ?_)
      | refine brK_ndec (fun _ => ?_) (fun _ => ?_)
      | refine brK_not (fun _ => ?_) (fun _ => ?_)
      | refine brK_in (fun _ => ?_) (fun _ => ?_)
      | refine And.intro (by first | exact rfl | exact (by first | exact tab_app hT | exact et_app hE | exact hls) | exact ⟨_, rfl, rfl⟩ | exact ⟨rfl, rfl, rfl⟩ | exact of_decide_eq_true rfl | exact trivial | assumption | omega | (show (_ ≤ _ ∧ _ ≤ _); omega) | (simp; omega) | exact ⟨by first | omega | (simp; omega), _, rfl, rfl⟩) ?_
      | refine Both.mk ?_ ?_
      | refine Exists.intro _ (And.intro rfl ?_)
      | refine fun _ => ?_))
    | exact rfl)
  · rename_i q
    exact absurd rfl q
  · exact yes (decide_eq_true rfl)
  rename_i q0 q1
  have q1 : ¬ rchV e ls < 0 := q1
  have hle := rch_le e ls
  refine loop_in (ι := Nat) (fun i => mkS 57 [(2, B false), (3, .ptr 0 0), (4, .sl 7 (ls.map LkD.row)), (5, I (rchV e ls)), (7, I i)] [.cells [I e.n, .ints e.c, .ints e.k, I e.r]] Fs) (fun i => i ≤ ls.length + 1) (fun i => ls.length + 1 - i) 0 [1] (Nat.zero_le _) ?_ ?_
  · repeat' (first
      | ((conv => whnf); (first
        | refine brK_dec (fun _ => ?_) (fun _ => ?_)
        | refine brK_ndec (fun _ => ?_) (fun _ => ?_)
        | refine brK_not (fun _ => ?_) (fun _ => ?_)
        | refine brK_in (fun _ => ?_) (fun _ => ?_)
        | refine And.intro (by first | exact rfl | exact ⟨_, rfl, rfl⟩ | exact ⟨rfl, rfl, rfl⟩ | exact of_decide_eq_true rfl | exact trivial | assumption | omega | (show (_ ≤ _ ∧ _ ≤ _); omega) | (simp; omega) | exact ⟨by first | omega | (simp; omega), _, rfl, rfl⟩) ?_
        | refine Both.mk ?_ ?_
        | refine Exists.intro _ (And.intro rfl ?_)
        | refine fun _ => ?_))
      | exact rfl)
  intro i hi
  repeat' (first
    | ((conv => whnf); (first
      | refine draw_plan (id := 11) [] [] (.take 0 (.take 1 (.take 2 (.take 3 (.two 4 (.take 5 (.take 6 (.take 7 (.run 8 (.run 9 (.take 10 .done)))))) 8 (.run 4 (.take 5 (.take 6 (.take 7 (.run 9 (.take 10 .done))))))))))) (by kernel_rfl) (by kernel_rfl) ?_
      | refine brK_dec (fun _ => ?_) (fun _ => ?_)
      | refine brK_ndec (fun _ => ?_) (fun _ => ?_)
      | refine brK_not (fun _ => ?_) (fun _ => ?_)
      | refine brK_in (fun _ => ?_) (fun _ => ?_)
      | refine And.intro (by first | exact rfl | exact (by first | exact tab_app hT | exact et_app hE | exact hls) | exact ⟨_, rfl, rfl⟩ | exact ⟨rfl, rfl, rfl⟩ | exact of_decide_eq_true rfl | exact trivial | assumption | omega | (show (_ ≤ _ ∧ _ ≤ _); omega) | (simp; omega) | exact ⟨by first | omega | (simp; omega), _, rfl, rfl⟩) ?_
      | refine Both.mk ?_ ?_
      | refine Exists.intro _ (And.intro rfl ?_)
      | refine fun _ => ?_))
    | exact rfl)
  rotate_right
  · exact yes (decide_eq_true (by rw [hlen]; exact hle))
  all_goals
    rename_i hil
    have hi2 : i ≤ ls.length := by omega
    have hp := rch_pre e ls i hi2 q1
    refine ⟨ls.take i, by simp, he1, he2, fun x hx => hls x (List.mem_of_mem_take hx), by simp; omega, ?_⟩
  · repeat' (first
      | ((conv => whnf); (first
        | refine draw_plan (id := 11) [] [] (.take 0 (.take 1 (.take 2 (.take 3 (.two 4 (.take 5 (.take 6 (.take 7 (.run 8 (.run 9 (.take 10 .done)))))) 8 (.run 4 (.take 5 (.take 6 (.take 7 (.run 9 (.take 10 .done))))))))))) (by kernel_rfl) (by kernel_rfl) ?_
        | refine brK_dec (fun _ => ?_) (fun _ => ?_)
        | refine brK_ndec (fun _ => ?_) (fun _ => ?_)
        | refine brK_not (fun _ => ?_) (fun _ => ?_)
        | refine brK_in (fun _ => ?_) (fun _ => ?_)
        | refine And.intro (by first | exact rfl | exact ⟨_, rfl, rfl⟩ | exact ⟨rfl, rfl, rfl⟩ | exact of_decide_eq_true rfl | exact trivial | assumption | omega | (show (_ ≤ _ ∧ _ ≤ _); omega) | (simp; omega) | exact ⟨by first | omega | (simp; omega), _, rfl, rfl⟩) ?_
        | refine Both.mk ?_ ?_
        | refine Exists.intro _ (And.intro rfl ?_)
        | refine fun _ => ?_))
      | exact rfl)
    all_goals rename_i q q2
    · exact absurd (q.symm.trans hp) q2
    · refine ⟨i + 1, [0], by omega, by omega, ?_⟩
      repeat' (first
        | ((conv => whnf); (first
          | refine brK_dec (fun _ => ?_) (fun _ => ?_)
          | refine brK_ndec (fun _ => ?_) (fun _ => ?_)
          | refine brK_not (fun _ => ?_) (fun _ => ?_)
          | refine brK_in (fun _ => ?_) (fun _ => ?_)
          | refine And.intro (by first | exact rfl | exact ⟨_, rfl, rfl⟩ | exact ⟨rfl, rfl, rfl⟩ | exact of_decide_eq_true rfl | exact trivial | assumption | omega | (show (_ ≤ _ ∧ _ ≤ _); omega) | (simp; omega) | exact ⟨by first | omega | (simp; omega), _, rfl, rfl⟩) ?_
          | refine Both.mk ?_ ?_
          | refine Exists.intro _ (And.intro rfl ?_)
          | refine fun _ => ?_))
        | exact rfl)
    · exact absurd (q.symm.trans hp) q2
    · refine ⟨i + 1, [0], by omega, by omega, ?_⟩
      repeat' (first
        | ((conv => whnf); (first
          | refine brK_dec (fun _ => ?_) (fun _ => ?_)
          | refine brK_ndec (fun _ => ?_) (fun _ => ?_)
          | refine brK_not (fun _ => ?_) (fun _ => ?_)
          | refine brK_in (fun _ => ?_) (fun _ => ?_)
          | refine And.intro (by first | exact rfl | exact ⟨_, rfl, rfl⟩ | exact ⟨rfl, rfl, rfl⟩ | exact of_decide_eq_true rfl | exact trivial | assumption | omega | (show (_ ≤ _ ∧ _ ≤ _); omega) | (simp; omega) | exact ⟨by first | omega | (simp; omega), _, rfl, rfl⟩) ?_
          | refine Both.mk ?_ ?_
          | refine Exists.intro _ (And.intro rfl ?_)
          | refine fun _ => ?_))
        | exact rfl)
  · repeat' (first
      | ((conv => whnf); (first
        | refine draw_plan (id := 11) [] [] (.take 0 (.take 1 (.take 2 (.take 3 (.two 4 (.take 5 (.take 6 (.take 7 (.run 8 (.run 9 (.take 10 .done)))))) 8 (.run 4 (.take 5 (.take 6 (.take 7 (.run 9 (.take 10 .done))))))))))) (by kernel_rfl) (by kernel_rfl) ?_
        | refine brK_dec (fun _ => ?_) (fun _ => ?_)
        | refine brK_ndec (fun _ => ?_) (fun _ => ?_)
        | refine brK_not (fun _ => ?_) (fun _ => ?_)
        | refine brK_in (fun _ => ?_) (fun _ => ?_)
        | refine And.intro (by first | exact rfl | exact ⟨_, rfl, rfl⟩ | exact ⟨rfl, rfl, rfl⟩ | exact of_decide_eq_true rfl | exact trivial | assumption | omega | (show (_ ≤ _ ∧ _ ≤ _); omega) | (simp; omega) | exact ⟨by first | omega | (simp; omega), _, rfl, rfl⟩) ?_
        | refine Both.mk ?_ ?_
        | refine Exists.intro _ (And.intro rfl ?_)
        | refine fun _ => ?_))
      | exact rfl)
    all_goals rename_i q q2
    · exact absurd (q.symm.trans hp) q2
    · refine ⟨i + 1, [0], by omega, by omega, ?_⟩
      repeat' (first
        | ((conv => whnf); (first
          | refine brK_dec (fun _ => ?_) (fun _ => ?_)
          | refine brK_ndec (fun _ => ?_) (fun _ => ?_)
          | refine brK_not (fun _ => ?_) (fun _ => ?_)
          | refine brK_in (fun _ => ?_) (fun _ => ?_)
          | refine And.intro (by first | exact rfl | exact ⟨_, rfl, rfl⟩ | exact ⟨rfl, rfl, rfl⟩ | exact of_decide_eq_true rfl | exact trivial | assumption | omega | (show (_ ≤ _ ∧ _ ≤ _); omega) | (simp; omega) | exact ⟨by first | omega | (simp; omega), _, rfl, rfl⟩) ?_
          | refine Both.mk ?_ ?_
          | refine Exists.intro _ (And.intro rfl ?_)
          | refine fun _ => ?_))
        | exact rfl)
    · exact absurd (q.symm.trans hp) q2
    · refine ⟨i + 1, [0], by omega, by omega, ?_⟩
      repeat' (first
        | ((conv => whnf); (first
          | refine brK_dec (fun _ => ?_) (fun _ => ?_)
          | refine brK_ndec (fun _ => ?_) (fun _ => ?_)
          | refine brK_not (fun _ => ?_) (fun _ => ?_)
          | refine brK_in (fun _ => ?_) (fun _ => ?_)
          | refine And.intro (by first | exact rfl | exact ⟨_, rfl, rfl⟩ | exact ⟨rfl, rfl, rfl⟩ | exact of_decide_eq_true rfl | exact trivial | assumption | omega | (show (_ ≤ _ ∧ _ ≤ _); omega) | (simp; omega) | exact ⟨by first | omega | (simp; omega), _, rfl, rfl⟩) ?_
          | refine Both.mk ?_ ?_
          | refine Exists.intro _ (And.intro rfl ?_)
          | refine fun _ => ?_))
        | exact rfl)
end Go.Proofs.YtlhbdhccddadaaaGreatDoor
