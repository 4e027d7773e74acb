/-
The laws on the digests of epochs: their contracts.
No conditions.
-/
import Derived.Test.YtpbpabhkkfgheaaDoorBldE
import Derived.Test.YtpbpabhkkfgheaaDoorLxE
import Derived.Test.YtpbpabhkkfgheaaDoorDrE
namespace Go.Proofs.YtpbpabhkkfgheaaDoor
open Go Go.Vc
set_option maxHeartbeats 4000000
set_option maxRecDepth 10000
def c_spec_EpochDigest : Con := ⟨0, 0, false, fun xs hs _ K => match xs with
  | [.agg [.val (.int .i64 n), .ints c, .ints k, .val (.int .i64 r)]] => hs = [] ∧ c.length < 2000000 ∧ k.length < 2000000 ∧ K (I (digE n c k r)) [] []
  | _ => False⟩
theorem k_spec_EpochDigest : Keeps' Tryd.prog 11 c_spec_EpochDigest := by
  refine keeps_of_vc mix TyT_ok (cok_cons k_spec_EpochValid Tryd.func23 rfl rfl (cok_cons k_spec_l41Digest Tryd.func24 rfl rfl cok_nil)) Tryd.func11 rfl rfl rfl ?_
  intro aargs hs Fs K h
  simp only [c_spec_EpochDigest] at h
  split at h
  case h_2 => exact h.elim
  rename_i n c k r
  obtain ⟨rfl, l1, l2, h⟩ := h
  have no : ∀ {b : Int}, digE n c k r = b → K (I b) [] [] := fun e => by rw [← e]; exact h
  repeat' (first
    | ((conv => whnf); (first
      | refine brK_dec (fun _ => ?_) (fun _ => ?_)
      | refine brK_ndec (fun _ => ?_) (fun _ => ?_)
      | refine brK_not (fun _ => ?_) (fun _ => ?_)
      | refine brK_in (fun _ => ?_) (fun _ => ?_)
      | refine And.intro (by first | exact rfl | exact ⟨_, rfl, rfl⟩ | exact ⟨rfl, rfl, rfl⟩ | exact of_decide_eq_true rfl | exact trivial | assumption | omega | (show (_ ≤ _ ∧ _ ≤ _); omega) | (simp; omega) | exact ⟨by first | omega | (simp; omega), _, rfl, rfl⟩) ?_
      | refine Both.mk ?_ ?_
      | refine Exists.intro _ (And.intro rfl ?_)
      | refine fun _ => ?_))
    | exact rfl)
  · rename_i e
    exact no (by rw [digE, if_neg (by rw [e]; simp)])
  · exact h
def c_laws_FnExactEpochDigest : Con := ⟨0, 0, false, fun xs hs Fs K => match xs with
  | [.agg [.val (.int .i64 n), .ints c, .ints k, .val (.int .i64 r)]] =>
    hs = [] ∧ hasTab Fs ∧ c.length ≤ 9223372036854775807 ∧ k.length ≤ 9223372036854775807 ∧ K (B true) [] []
  | _ => False⟩
theorem k_laws_FnExactEpochDigest : Keeps' Tryd.prog 3 c_laws_FnExactEpochDigest := by
  refine keeps_of_vc mix TyT_ok (cok_cons k_laws_szEpoch Tryd.func10 rfl rfl (cok_cons k_laws_toEpoch Tryd.func12 rfl rfl (cok_cons k_spec_EpochDigest Tryd.func11 rfl rfl (cok_cons k_impl_EpochDigest Tryd.func13 rfl rfl (cok_cons k_laws_eqEpoch Tryd.func14 rfl rfl cok_nil))))) Tryd.func3 rfl rfl rfl ?_
  intro aargs hs Fs K h
  simp only [c_laws_FnExactEpochDigest] at h
  split at h
  case h_2 => exact h.elim
  rename_i n c k r
  obtain ⟨rfl, hT, l1, l2, h⟩ := h
  repeat' (first
    | ((conv => whnf); (first
      | refine draw_plan (id := 10) [] [] (.take 0 (.take 1 (.run 2 (.run 3 (.take 4 .done))))) (by kernel_rfl) (by kernel_rfl) ?_
      | refine brK_dec (fun _ => ?_) (fun _ => ?_)
      | refine brK_ndec (fun _ => ?_) (fun _ => ?_)
      | refine brK_not (fun _ => ?_) (fun _ => ?_)
      | refine brK_in (fun _ => ?_) (fun _ => ?_)
      | refine And.intro (by first | exact rfl | exact (tab_app hT) | exact ⟨_, rfl, rfl⟩ | exact ⟨rfl, rfl, rfl⟩ | exact of_decide_eq_true rfl | exact trivial | assumption | omega | (show (_ ≤ _ ∧ _ ≤ _); omega) | (simp; omega) | exact ⟨by first | omega | (simp; omega), _, rfl, rfl⟩) ?_
      | refine Both.mk ?_ ?_
      | refine Exists.intro _ (And.intro rfl ?_)
      | refine fun _ => ?_))
    | exact rfl)
  · exact h
  rename_i h1
  obtain ⟨g1, g2⟩ := szE_le (by omega) h1
  repeat' (first
    | ((conv => whnf); (first
      | refine draw_plan (id := 10) [] [] (.take 0 (.take 1 (.run 2 (.run 3 (.take 4 .done))))) (by kernel_rfl) (by kernel_rfl) ?_
      | refine brK_dec (fun _ => ?_) (fun _ => ?_)
      | refine brK_ndec (fun _ => ?_) (fun _ => ?_)
      | refine brK_not (fun _ => ?_) (fun _ => ?_)
      | refine brK_in (fun _ => ?_) (fun _ => ?_)
      | refine And.intro (by first | exact rfl | exact (tab_app hT) | exact ⟨_, rfl, rfl⟩ | exact ⟨rfl, rfl, rfl⟩ | exact of_decide_eq_true rfl | exact trivial | assumption | omega | (show (_ ≤ _ ∧ _ ≤ _); omega) | (simp; omega) | exact ⟨by first | omega | (simp; omega), _, rfl, rfl⟩) ?_
      | refine Both.mk ?_ ?_
      | refine Exists.intro _ (And.intro rfl ?_)
      | refine fun _ => ?_))
    | exact rfl)
  all_goals first
    | exact h
    | (exfalso; simp_all; done)
theorem digS_inj {x y : Int} {b : UInt8} (hx : 0 ≤ x ∧ x ≤ 990) (hy : 0 ≤ y ∧ y ≤ 990) (h : digS x b = digS y b) : x = y := by
  unfold digS at h
  omega
theorem digS_two {x : Int} {a b : UInt8} (h : digS x a = digS x b) (ha : a.toNat < 100) (hb : b.toNat < 100) : a.toNat = b.toNat := by
  unfold digS at h
  omega
theorem dig_suffix : ∀ (l : List UInt8) {x y : Int}, 0 ≤ x ∧ x ≤ 990 → 0 ≤ y ∧ y ≤ 990 → l.foldl digS x = l.foldl digS y → x = y
  | [], _, _, _, _, h => h
  | b :: l, x, y, hx, hy, h => by
    have h1 : 0 ≤ digS x b ∧ digS x b ≤ 990 := by unfold digS; omega
    have h2 : 0 ≤ digS y b ∧ digS y b ≤ 990 := by unfold digS; omega
    exact digS_inj hx hy (dig_suffix l h1 h2 h)
/-- The last digit of a number, and what comes ahead of it. -/
theorem itoa_last {r : Int} (h0 : 0 ≤ r) : Lib.itoa r = (if r < 10 then [] else Lib.itoa (r / 10)) ++ [UInt8.ofNat (48 + (r % 10).toNat)] := by
  rw [itoa_dec h0]
  by_cases h : r < 10
  · rw [if_pos h, dec_one _ (by omega), show (r % 10).toNat = r.toNat by omega]
    rfl
  · rw [if_neg h, itoa_dec (by omega), dec_more _ (by omega), show (r / 10).toNat = r.toNat / 10 by omega, show (r % 10).toNat = r.toNat % 10 by omega]
theorem dig_root {n r r' : Int} {c k : List Int} (h0 : 0 ≤ r) (h1 : 0 ≤ r') (hd : r / 10 = r' / 10) (hne : r % 10 ≠ r' % 10) : dig (epT n c k r) ≠ dig (epT n c k r') := by
  intro h
  have hl : (r < 10) ↔ (r' < 10) := by omega
  have e1 := itoa_last h0
  have e2 := itoa_last h1
  rw [← hd] at e2
  have e3 : (if r' < 10 then [] else Lib.itoa (r / 10)) = (if r < 10 then [] else Lib.itoa (r / 10)) := by
    by_cases q : r < 10
    · rw [if_pos q, if_pos (hl.1 q)]
    · rw [if_neg q, if_neg fun z => q (hl.2 z)]
  rw [e3] at e2
  generalize (if r < 10 then [] else Lib.itoa (r / 10)) = A at e1 e2
  unfold epT at h
  rw [e1, e2] at h
  unfold dig at h
  simp only [List.foldl_append, List.foldl_cons, List.foldl_nil] at h
  generalize hx : List.foldl digS (digS (List.foldl digS 7 (Lib.itoa n)) 58) A = x at h
  have hxr : 0 ≤ x ∧ x ≤ 990 := by
    rw [← hx]
    have q1 := dig_bound (Lib.itoa n)
    have q2 : 0 ≤ digS (List.foldl digS 7 (Lib.itoa n)) 58 ∧ digS (List.foldl digS 7 (Lib.itoa n)) 58 ≤ 990 := by unfold digS; omega
    exact dig_rng A _ q2.1 q2.2
  have h3 := dig_suffix _ (by unfold digS; omega) (by unfold digS; omega) h
  have q1 : (UInt8.ofNat (48 + (r % 10).toNat)).toNat = 48 + (r % 10).toNat := by rw [UInt8.toNat_ofNat']; omega
  have q2 : (UInt8.ofNat (48 + (r' % 10).toNat)).toNat = 48 + (r' % 10).toNat := by rw [UInt8.toNat_ofNat']; omega
  have h4 := digS_two h3 (by omega) (by omega)
  omega
def c_spec_DrawEpochDigest : Con := ⟨2, 0, false, fun xs hs _ K => match xs with
  | [.bytes b] => hs = [] ∧ b.length ≤ 1048576 ∧ ∀ n c k r, c.length ≤ 20 → k.length ≤ 21 → K (.agg [I n, .own 0, .own 1, I r]) [.iarr c, .iarr k] []
  | _ => False⟩
theorem k_spec_DrawEpochDigest : Keeps' Tryd.prog 15 c_spec_DrawEpochDigest := by
  refine keeps_of_vc mix TyT_ok (cok_cons k_spec_DrawEpochValid Tryd.func31 rfl rfl cok_nil) Tryd.func15 rfl rfl rfl ?_
  intro aargs hs Fs K h
  simp only [c_spec_DrawEpochDigest] at h
  split at h
  case h_2 => exact h.elim
  rename_i b
  obtain ⟨rfl, hb, h⟩ := h
  repeat' (first
    | ((conv => whnf); (first
      | refine brK_dec (fun _ => ?_) (fun _ => ?_)
      | refine brK_ndec (fun _ => ?_) (fun _ => ?_)
      | refine brK_not (fun _ => ?_) (fun _ => ?_)
      | refine brK_in (fun _ => ?_) (fun _ => ?_)
      | refine And.intro (by first | exact rfl | exact ⟨_, rfl, rfl⟩ | exact ⟨rfl, rfl, rfl⟩ | exact of_decide_eq_true rfl | exact trivial | assumption | omega | (show (_ ≤ _ ∧ _ ≤ _); omega) | (simp; omega) | exact ⟨by first | omega | (simp; omega), _, rfl, rfl⟩) ?_
      | refine Both.mk ?_ ?_
      | refine Exists.intro _ (And.intro rfl ?_)
      | refine fun _ => ?_))
    | exact rfl)
  all_goals exact h _ _ _ _ (by assumption) (by assumption)
def c_laws_FnEpochDigest : Con := ⟨0, 0, false, fun xs hs Fs K => match xs with
  | [.bytes b] => hs = [] ∧ hasTab Fs ∧ b.length ≤ 9223372036854775807 ∧ K (B true) [] []
  | _ => False⟩
theorem k_laws_FnEpochDigest : Keeps' Tryd.prog 4 c_laws_FnEpochDigest := by
  refine keeps_of_vc mix TyT_ok (cok_cons k_spec_DrawEpochDigest Tryd.func15 rfl rfl (cok_cons k_impl_EpochDigest Tryd.func13 rfl rfl (cok_cons k_spec_EpochDigest Tryd.func11 rfl rfl cok_nil))) Tryd.func4 rfl rfl rfl ?_
  intro aargs hs Fs K h
  simp only [c_laws_FnEpochDigest] at h
  split at h
  case h_2 => exact h.elim
  rename_i b
  obtain ⟨rfl, hT, hb, h⟩ := h
  repeat' (first
    | ((conv => whnf); (first
      | refine brK_dec (fun _ => ?_) (fun _ => ?_)
      | refine brK_ndec (fun _ => ?_) (fun _ => ?_)
      | refine brK_not (fun _ => ?_) (fun _ => ?_)
      | refine brK_in (fun _ => ?_) (fun _ => ?_)
      | refine And.intro (by first | exact rfl | exact (tab_app hT) | exact ⟨_, rfl, rfl⟩ | exact ⟨rfl, rfl, rfl⟩ | exact of_decide_eq_true rfl | exact trivial | assumption | omega | (show (_ ≤ _ ∧ _ ≤ _); omega) | (simp; omega) | exact ⟨by first | omega | (simp; omega), _, rfl, rfl⟩) ?_
      | refine Both.mk ?_ ?_
      | refine Exists.intro _ (And.intro rfl ?_)
      | refine fun _ => ?_))
    | exact rfl)
  · exact h
  · exfalso; simp_all
  · rw [decide_eq_true rfl]; exact h
  · rename_i hb2 n c k r l1 l2 e1 e2
    have hv : EpV n c k r = true := by
      cases hv : EpV n c k r
      · exact absurd (show digE n c k r < 0 by rw [digE, if_neg (by rw [hv]; simp)]; omega) e2
      · rfl
    obtain ⟨⟨n0, n1⟩, ⟨r0, r1⟩, _⟩ := EpV_out hv
    refine ⟨r0, by omega, ?_⟩
    repeat' (first
      | ((conv => whnf); (first
        | refine brK_dec (fun _ => ?_) (fun _ => ?_)
        | refine brK_ndec (fun _ => ?_) (fun _ => ?_)
        | refine brK_not (fun _ => ?_) (fun _ => ?_)
        | refine brK_in (fun _ => ?_) (fun _ => ?_)
        | refine And.intro (by first | exact rfl | exact (tab_app hT) | exact ⟨_, rfl, rfl⟩ | exact ⟨rfl, rfl, rfl⟩ | exact of_decide_eq_true rfl | exact trivial | assumption | omega | (show (_ ≤ _ ∧ _ ≤ _); omega) | (simp; omega) | exact ⟨by first | omega | (simp; omega), _, rfl, rfl⟩) ?_
        | refine Both.mk ?_ ?_
        | refine Exists.intro _ (And.intro rfl ?_)
        | refine fun _ => ?_))
      | exact rfl)
    · exact h
    · rename_i hlt
      have hv2 : EpV n c k (r - r % 10 + (r + 1) % 10) = true := by
        have hr : inR (r - r % 10 + (r + 1) % 10) 0 990 = true := by simp [inR]; omega
        simp only [EpV, Bool.and_eq_true] at hv ⊢
        exact ⟨hv.1, hv.2.1, hr, hv.2.2.2⟩
      have hne := dig_root (n := n) (c := c) (k := k) (r := r - r % 10 + (r + 1) % 10) (r' := r) (by omega) r0 (by omega) (by omega)
      rw [digE_ok hv2, digE_ok hv, decide_eq_false hne]
      exact h
end Go.Proofs.YtpbpabhkkfgheaaDoor
