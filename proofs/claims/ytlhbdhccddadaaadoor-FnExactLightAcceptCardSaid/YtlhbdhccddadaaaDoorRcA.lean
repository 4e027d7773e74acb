/-
Receipts: their digests and their checks, by the program and by the reference.
No conditions.
-/
import Derived.Test.YtlhbdhccddadaaaDoorMrB
namespace Go.Proofs.YtlhbdhccddadaaaDoor
open Go Go.Vc
set_option maxHeartbeats 2000000
set_option maxRecDepth 10000
def c_impl_Receipt_valid : Con := ⟨0, 0, false, fun xs hs _ K => match xs with
  | [.agg [.val (.int .i64 i), .val (.bool _), .val (.int .i64 g)]] => hs = [] ∧ K (B (inR i 0 15 && inR g 0 990)) [] []
  | _ => False⟩
theorem rc_no {x a b : Int} (h : ¬ (a ≤ x ∧ x ≤ b)) : inR x a b = false := by
  cases e : inR x a b with
  | false => rfl
  | true => exact absurd (inR_out e) h
theorem inR_in {x a b : Int} (h : a ≤ x ∧ x ≤ b) : inR x a b = true := by simpa [inR] using h
theorem k_impl_Receipt_valid : Keeps' Tryd.prog 78 c_impl_Receipt_valid := by
  refine keeps_of_vc mix TyT_ok (cok_cons k_impl_isDigest Tryd.func65 rfl rfl cok_nil) Tryd.func78 rfl rfl rfl ?_
  intro aargs hs Fs K h
  simp only [c_impl_Receipt_valid] at h
  split at h
  case h_2 => exact h.elim
  rename_i i d g
  obtain ⟨rfl, h⟩ := h
  have no : ∀ {b : Bool}, (inR i 0 15 && inR g 0 990) = b → K (B b) [] [] := fun e => by rw [← e]; exact h
  repeat' (first
    | ((conv => whnf); (first
      | refine brK_dec (fun _ => ?_) (fun _ => ?_)
      | refine brK_ndec (fun _ => ?_) (fun _ => ?_)
      | refine brK_not (fun _ => ?_) (fun _ => ?_)
      | refine brK_in (fun _ => ?_) (fun _ => ?_)
      | refine And.intro (by first | exact rfl | exact ⟨_, rfl, rfl⟩ | exact ⟨rfl, rfl, rfl⟩ | exact of_decide_eq_true rfl | exact trivial | assumption | omega | (show (_ ≤ _ ∧ _ ≤ _); omega) | (simp; omega) | exact ⟨by first | omega | (simp; omega), _, rfl, rfl⟩) ?_
      | refine Both.mk ?_ ?_
      | refine Exists.intro _ (And.intro rfl ?_)
      | refine fun _ => ?_))
    | exact rfl)
  all_goals first
    | exact no (by rw [rc_no (by omega)]; rfl)
    | exact no (by rw [inR_in (by omega), Bool.true_and])
    | exact no (by rw [inR_in (by omega), Bool.true_and]; assumption)
def c_impl_ReceiptDigest : Con := ⟨0, 0, false, fun xs hs _ K => match xs with
  | [.agg [.val (.int .i64 i), .val (.bool d), .val (.int .i64 g)]] => hs = [] ∧ K (I (rdg i d g)) [] []
  | _ => False⟩
theorem rdg_no {i g : Int} {d : Bool} (h : (inR i 0 15 && inR g 0 990) = false) : rdg i d g = -1 := by
  unfold rdg
  rw [h]
  rfl
theorem rdg_in {i g : Int} {d : Bool} (h : (inR i 0 15 && inR g 0 990) = true) : rdg i d g = hp (2 * i + bI d) g := by
  unfold rdg
  rw [h]
  rfl
theorem hp_if {a b : Int} (h1 : 0 ≤ a ∧ a ≤ 990) (h2 : inR b 0 990 = true) : (if (inR a 0 990 && inR b 0 990) = true then hp a b else -1) = hp a b := by
  rw [inR_in h1, h2]
  rfl
theorem k_impl_ReceiptDigest : Keeps' Tryd.prog 80 c_impl_ReceiptDigest := by
  refine keeps_of_vc mix TyT_ok (cok_cons k_impl_Receipt_valid Tryd.func78 rfl rfl (cok_cons k_impl_HashPair Tryd.func96 rfl rfl cok_nil)) Tryd.func80 rfl rfl rfl ?_
  intro aargs hs Fs K h
  simp only [c_impl_ReceiptDigest] at h
  split at h
  case h_2 => exact h.elim
  rename_i i d g
  obtain ⟨rfl, h⟩ := h
  have no : ∀ {z : Int}, rdg i d g = z → K (I z) [] [] := fun e => by rw [← e]; exact h
  rcases Bool.eq_false_or_eq_true (inR i 0 15 && inR g 0 990) with hq | hq
  · have hq2 := hq
    simp only [Bool.and_eq_true] at hq2
    have h1 := inR_out hq2.1
    cases d
    · repeat' (first
        | ((conv => whnf); (first
          | refine brK_dec (fun _ => ?_) (fun _ => ?_)
          | refine brK_ndec (fun _ => ?_) (fun _ => ?_)
          | refine brK_not (fun _ => ?_) (fun _ => ?_)
          | refine brK_in (fun _ => ?_) (fun _ => ?_)
          | refine And.intro (by first | exact rfl | exact ⟨_, rfl, rfl⟩ | exact ⟨rfl, rfl, rfl⟩ | exact of_decide_eq_true rfl | exact trivial | assumption | omega | (show (_ ≤ _ ∧ _ ≤ _); omega) | (simp; omega) | exact ⟨by first | omega | (simp; omega), _, rfl, rfl⟩) ?_
          | refine Both.mk (fun e => absurd (hq.symm.trans e) (by decide)) ?_
          | refine Both.mk ?_ (fun e => absurd (hq.symm.trans e) (by decide))
          | refine Both.mk ?_ ?_
          | refine Exists.intro _ (And.intro rfl ?_)
          | refine fun _ => ?_))
        | exact rfl)
      all_goals first
        | (rename_i e; exact absurd (hq.symm.trans e) (by decide))
        | exact no (by rw [rdg_in hq, hp_if (by omega) hq2.2]; simp [bI])
    · repeat' (first
        | ((conv => whnf); (first
          | refine brK_dec (fun _ => ?_) (fun _ => ?_)
          | refine brK_ndec (fun _ => ?_) (fun _ => ?_)
          | refine brK_not (fun _ => ?_) (fun _ => ?_)
          | refine brK_in (fun _ => ?_) (fun _ => ?_)
          | refine And.intro (by first | exact rfl | exact ⟨_, rfl, rfl⟩ | exact ⟨rfl, rfl, rfl⟩ | exact of_decide_eq_true rfl | exact trivial | assumption | omega | (show (_ ≤ _ ∧ _ ≤ _); omega) | (simp; omega) | exact ⟨by first | omega | (simp; omega), _, rfl, rfl⟩) ?_
          | refine Both.mk (fun e => absurd (hq.symm.trans e) (by decide)) ?_
          | refine Both.mk ?_ (fun e => absurd (hq.symm.trans e) (by decide))
          | refine Both.mk ?_ ?_
          | refine Exists.intro _ (And.intro rfl ?_)
          | refine fun _ => ?_))
        | exact rfl)
      all_goals first
        | (rename_i e; exact absurd (hq.symm.trans e) (by decide))
        | exact no (by rw [rdg_in hq, hp_if (by omega) hq2.2]; simp [bI])
  · repeat' (first
      | ((conv => whnf); (first
        | refine brK_dec (fun _ => ?_) (fun _ => ?_)
        | refine brK_ndec (fun _ => ?_) (fun _ => ?_)
        | refine brK_not (fun _ => ?_) (fun _ => ?_)
        | refine brK_in (fun _ => ?_) (fun _ => ?_)
        | refine And.intro (by first | exact rfl | exact ⟨_, rfl, rfl⟩ | exact ⟨rfl, rfl, rfl⟩ | exact of_decide_eq_true rfl | exact trivial | assumption | omega | (show (_ ≤ _ ∧ _ ≤ _); omega) | (simp; omega) | exact ⟨by first | omega | (simp; omega), _, rfl, rfl⟩) ?_
        | refine Both.mk (fun e => absurd (hq.symm.trans e) (by decide)) ?_
        | refine Both.mk ?_ (fun e => absurd (hq.symm.trans e) (by decide))
        | refine Both.mk ?_ ?_
        | refine Exists.intro _ (And.intro rfl ?_)
        | refine fun _ => ?_))
      | exact rfl)
    all_goals first
      | exact no (rdg_no hq)
      | (rename_i e; exact absurd (hq.symm.trans e) (by decide))
def c_impl_ReceiptCheck : Con := ⟨0, 0, false, fun xs hs _ K => match xs with
  | [.val (.int .i64 root), .val (.int .i64 s), .agg [.val (.int .i64 i), .val (.bool d), .val (.int .i64 g)], .ints p] => hs = [] ∧ p.length < 2000000 ∧ K (B (rcV root s i d g p)) [] []
  | _ => False⟩
theorem k_impl_ReceiptCheck : Keeps' Tryd.prog 50 c_impl_ReceiptCheck := by
  refine keeps_of_vc mix TyT_ok (cok_cons k_impl_Receipt_valid Tryd.func78 rfl rfl (cok_cons k_impl_ReceiptDigest Tryd.func80 rfl rfl (cok_cons k_impl_MerkleCheck Tryd.func79 rfl rfl cok_nil))) Tryd.func50 rfl rfl rfl ?_
  intro aargs hs Fs K h
  simp only [c_impl_ReceiptCheck] at h
  split at h
  case h_2 => exact h.elim
  rename_i root s i d g p
  obtain ⟨rfl, h3, h⟩ := h
  have no : ∀ {b : Bool}, rcV root s i d g p = b → K (B b) [] [] := fun e => by rw [← e]; exact h
  repeat' (first
    | ((conv => whnf); (first
      | refine draw_plan (id := 1) [] [] (.take 0 (.run 1 (.take 2 (.take 3 (.take 4 (.take 5 (.take 6 (.take 7 (.take 9 (.run 8 (.run 10 (.take 11 (.take 12 .done))))))))))))) (by kernel_rfl) (by kernel_rfl) ?_
      | refine brK_dec (fun _ => ?_) (fun _ => ?_)
      | refine brK_ndec (fun _ => ?_) (fun _ => ?_)
      | refine brK_not (fun _ => ?_) (fun _ => ?_)
      | refine brK_in (fun _ => ?_) (fun _ => ?_)
      | refine And.intro (by first | exact rfl | exact ⟨_, rfl, rfl⟩ | exact ⟨rfl, rfl, rfl⟩ | exact of_decide_eq_true rfl | exact trivial | assumption | omega | (show (_ ≤ _ ∧ _ ≤ _); omega) | (simp; omega) | exact ⟨by first | omega | (simp; omega), _, rfl, rfl⟩) ?_
      | refine Both.mk ?_ ?_
      | refine Exists.intro _ (And.intro rfl ?_)
      | refine fun _ => ?_))
    | exact rfl)
  all_goals first
    | (rename_i q; exact no (by rw [rcV, q]; rfl))
    | trace_state
def c_spec_l33Receipt : Con := ⟨0, 0, false, fun xs hs _ K => match xs with
  | [.agg [.val (.int .i64 i), .val (.bool _), .val (.int .i64 g)]] => hs = [] ∧ K (B (inR i 0 15 && inR g 0 990)) [] []
  | _ => False⟩
theorem k_spec_l33Receipt : Keeps' Tryd.prog 75 c_spec_l33Receipt := by
  refine keeps_of_vc mix TyT_ok (cok_cons k_spec_l6In Tryd.func52 rfl rfl (cok_cons k_spec_l2Digest Tryd.func53 rfl rfl cok_nil)) Tryd.func75 rfl rfl rfl ?_
  intro aargs hs Fs K h
  simp only [c_spec_l33Receipt] at h
  split at h
  case h_2 => exact h.elim
  rename_i i d g
  obtain ⟨rfl, h⟩ := h
  have no : ∀ {b : Bool}, (inR i 0 15 && inR g 0 990) = b → K (B b) [] [] := fun e => by rw [← e]; exact h
  repeat' (first
    | ((conv => whnf); (first
      | refine brK_dec (fun _ => ?_) (fun _ => ?_)
      | refine brK_ndec (fun _ => ?_) (fun _ => ?_)
      | refine brK_not (fun _ => ?_) (fun _ => ?_)
      | refine brK_in (fun _ => ?_) (fun _ => ?_)
      | refine And.intro (by first | exact rfl | exact ⟨_, rfl, rfl⟩ | exact ⟨rfl, rfl, rfl⟩ | exact of_decide_eq_true rfl | exact trivial | assumption | omega | (show (_ ≤ _ ∧ _ ≤ _); omega) | (simp; omega) | exact ⟨by first | omega | (simp; omega), _, rfl, rfl⟩) ?_
      | refine Both.mk ?_ ?_
      | refine Exists.intro _ (And.intro rfl ?_)
      | refine fun _ => ?_))
    | exact rfl)
  all_goals first
    | (rename_i q; exact no (by rw [q]; rfl))
    | (rename_i q q2; exact no (by rw [q, q2]; rfl))
def c_spec_ReceiptDigest : Con := ⟨0, 0, false, fun xs hs _ K => match xs with
  | [.agg [.val (.int .i64 i), .val (.bool d), .val (.int .i64 g)]] => hs = [] ∧ K (I (rdg i d g)) [] []
  | _ => False⟩
theorem k_spec_ReceiptDigest : Keeps' Tryd.prog 77 c_spec_ReceiptDigest := by
  refine keeps_of_vc mix TyT_ok (cok_cons k_spec_l33Receipt Tryd.func75 rfl rfl (cok_cons k_spec_l2Pair Tryd.func94 rfl rfl cok_nil)) Tryd.func77 rfl rfl rfl ?_
  intro aargs hs Fs K h
  simp only [c_spec_ReceiptDigest] at h
  split at h
  case h_2 => exact h.elim
  rename_i i d g
  obtain ⟨rfl, h⟩ := h
  have no : ∀ {z : Int}, rdg i d g = z → K (I z) [] [] := fun e => by rw [← e]; exact h
  rcases Bool.eq_false_or_eq_true (inR i 0 15 && inR g 0 990) with hq | hq
  · have hq2 := hq
    simp only [Bool.and_eq_true] at hq2
    have h1 := inR_out hq2.1
    have h2 := inR_out hq2.2
    cases d
    · repeat' (first
        | ((conv => whnf); (first
          | refine brK_dec (fun _ => ?_) (fun _ => ?_)
          | refine brK_ndec (fun _ => ?_) (fun _ => ?_)
          | refine brK_not (fun _ => ?_) (fun _ => ?_)
          | refine brK_in (fun _ => ?_) (fun _ => ?_)
          | refine And.intro (by first | exact rfl | exact ⟨_, rfl, rfl⟩ | exact ⟨rfl, rfl, rfl⟩ | exact of_decide_eq_true rfl | exact trivial | assumption | omega | (show (_ ≤ _ ∧ _ ≤ _); omega) | (simp; omega) | exact ⟨by first | omega | (simp; omega), _, rfl, rfl⟩) ?_
          | refine Both.mk (fun e => absurd (hq.symm.trans e) (by decide)) ?_
          | refine Both.mk ?_ (fun e => absurd (hq.symm.trans e) (by decide))
          | refine Both.mk ?_ ?_
          | refine Exists.intro _ (And.intro rfl ?_)
          | refine fun _ => ?_))
        | exact rfl)
      all_goals first
        | (rename_i e; exact absurd (hq.symm.trans e) (by decide))
        | exact no (by rw [rdg_in hq]; simp [bI])
    · repeat' (first
        | ((conv => whnf); (first
          | refine brK_dec (fun _ => ?_) (fun _ => ?_)
          | refine brK_ndec (fun _ => ?_) (fun _ => ?_)
          | refine brK_not (fun _ => ?_) (fun _ => ?_)
          | refine brK_in (fun _ => ?_) (fun _ => ?_)
          | refine And.intro (by first | exact rfl | exact ⟨_, rfl, rfl⟩ | exact ⟨rfl, rfl, rfl⟩ | exact of_decide_eq_true rfl | exact trivial | assumption | omega | (show (_ ≤ _ ∧ _ ≤ _); omega) | (simp; omega) | exact ⟨by first | omega | (simp; omega), _, rfl, rfl⟩) ?_
          | refine Both.mk (fun e => absurd (hq.symm.trans e) (by decide)) ?_
          | refine Both.mk ?_ (fun e => absurd (hq.symm.trans e) (by decide))
          | refine Both.mk ?_ ?_
          | refine Exists.intro _ (And.intro rfl ?_)
          | refine fun _ => ?_))
        | exact rfl)
      all_goals first
        | (rename_i e; exact absurd (hq.symm.trans e) (by decide))
        | exact no (by rw [rdg_in hq]; simp [bI])
  · repeat' (first
      | ((conv => whnf); (first
        | refine brK_dec (fun _ => ?_) (fun _ => ?_)
        | refine brK_ndec (fun _ => ?_) (fun _ => ?_)
        | refine brK_not (fun _ => ?_) (fun _ => ?_)
        | refine brK_in (fun _ => ?_) (fun _ => ?_)
        | refine And.intro (by first | exact rfl | exact ⟨_, rfl, rfl⟩ | exact ⟨rfl, rfl, rfl⟩ | exact of_decide_eq_true rfl | exact trivial | assumption | omega | (show (_ ≤ _ ∧ _ ≤ _); omega) | (simp; omega) | exact ⟨by first | omega | (simp; omega), _, rfl, rfl⟩) ?_
        | refine Both.mk (fun e => absurd (hq.symm.trans e) (by decide)) ?_
        | refine Both.mk ?_ (fun e => absurd (hq.symm.trans e) (by decide))
        | refine Both.mk ?_ ?_
        | refine Exists.intro _ (And.intro rfl ?_)
        | refine fun _ => ?_))
      | exact rfl)
    all_goals first
      | exact no (rdg_no hq)
      | (rename_i e; exact absurd (hq.symm.trans e) (by decide))
def c_spec_ReceiptCheck : Con := ⟨0, 0, false, fun xs hs _ K => match xs with
  | [.val (.int .i64 root), .val (.int .i64 s), .agg [.val (.int .i64 i), .val (.bool d), .val (.int .i64 g)], .ints p] => hs = [] ∧ p.length < 2000000 ∧ K (B (rcV root s i d g p)) [] []
  | _ => False⟩
theorem k_spec_ReceiptCheck : Keeps' Tryd.prog 48 c_spec_ReceiptCheck := by
  refine keeps_of_vc mix TyT_ok (cok_cons k_spec_l33Receipt Tryd.func75 rfl rfl (cok_cons k_spec_ReceiptDigest Tryd.func77 rfl rfl (cok_cons k_spec_MerkleCheck Tryd.func76 rfl rfl cok_nil))) Tryd.func48 rfl rfl rfl ?_
  intro aargs hs Fs K h
  simp only [c_spec_ReceiptCheck] at h
  split at h
  case h_2 => exact h.elim
  rename_i root s i d g p
  obtain ⟨rfl, h3, h⟩ := h
  have no : ∀ {b : Bool}, rcV root s i d g p = b → K (B b) [] [] := fun e => by rw [← e]; exact h
  repeat' (first
    | ((conv => whnf); (first
      | refine draw_plan (id := 1) [] [] (.take 0 (.run 1 (.take 2 (.take 3 (.take 4 (.take 5 (.take 6 (.take 7 (.take 9 (.run 8 (.run 10 (.take 11 (.take 12 .done))))))))))))) (by kernel_rfl) (by kernel_rfl) ?_
      | refine brK_dec (fun _ => ?_) (fun _ => ?_)
      | refine brK_ndec (fun _ => ?_) (fun _ => ?_)
      | refine brK_not (fun _ => ?_) (fun _ => ?_)
      | refine brK_in (fun _ => ?_) (fun _ => ?_)
      | refine And.intro (by first | exact rfl | exact ⟨_, rfl, rfl⟩ | exact ⟨rfl, rfl, rfl⟩ | exact of_decide_eq_true rfl | exact trivial | assumption | omega | (show (_ ≤ _ ∧ _ ≤ _); omega) | (simp; omega) | exact ⟨by first | omega | (simp; omega), _, rfl, rfl⟩) ?_
      | refine Both.mk ?_ ?_
      | refine Exists.intro _ (And.intro rfl ?_)
      | refine fun _ => ?_))
    | exact rfl)
  all_goals first
    | (rename_i q; exact no (by rw [rcV, q]; rfl))
    | trace_state
end Go.Proofs.YtlhbdhccddadaaaDoor
