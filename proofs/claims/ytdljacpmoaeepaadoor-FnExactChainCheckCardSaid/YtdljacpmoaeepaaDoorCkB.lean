/-
Certificates: checks of the program and of the reference.
No conditions.
-/
import Derived.Test.YtdljacpmoaeepaaDoorCkA
namespace Go.Proofs.YtdljacpmoaeepaaDoor
open Go Go.Vc
set_option maxHeartbeats 2000000
set_option maxRecDepth 10000
theorem inR_out {a b c : Int} (h : inR a b c = true) : b ≤ a ∧ a ≤ c := by simpa [inR] using h
theorem inR_no {a b c : Int} (h : inR a b c = false) : ¬ (b ≤ a ∧ a ≤ c) := by simpa [inR] using h
theorem mul_bound {a b : Int} (ha : 0 ≤ a) (ha2 : a ≤ 1000) (hb : 0 ≤ b) (hb2 : b ≤ 1000) : 0 ≤ a * b ∧ a * b ≤ 1000000 := by
  refine ⟨Int.mul_nonneg ha hb, ?_⟩
  have := Int.mul_le_mul ha2 hb2 hb (by omega)
  omega
theorem cell_use {b : List Int} {p : Prop} (hx : ∀ x ∈ b, 0 ≤ x ∧ x ≤ 999) {i : Nat} {x : Int} (h : b[i]? = some x) (hz : 0 ≤ x → x ≤ 999 → p) : p := hz (hx x (List.mem_of_getElem? h)).1 (hx x (List.mem_of_getElem? h)).2
def chkV (p d g : Int) : Bool := decide (g * 5 % 997 = p * (d + 1) % 997)
def c_spec_l4Check : Con := ⟨0, 0, false, fun xs hs _ K => match xs with
  | [.val (.int .i64 p), .val (.int .i64 d), .val (.int .i64 g)] => hs = [] ∧ 0 ≤ p ∧ p ≤ 996 ∧ 0 ≤ d ∧ d ≤ 990 ∧ 0 ≤ g ∧ g ≤ 996 ∧ K (B (chkV p d g)) [] []
  | _ => False⟩
theorem k_spec_l4Check : Keeps' Tryd.prog 50 c_spec_l4Check := by
  refine keeps_of_vc mix TyT_ok cok_nil Tryd.func50 rfl rfl rfl ?_
  intro aargs hs Fs K h
  simp only [c_spec_l4Check] at h
  split at h
  case h_2 => exact h.elim
  rename_i p d g
  obtain ⟨rfl, h1, h2, h3, h4, h5, h6, h⟩ := h
  have hb := mul_bound h1 (by omega) (show 0 ≤ d + 1 by omega) (by omega)
  repeat' (first|((conv=>whnf); (first|refine brK_dec (fun _=>?_) (fun _=>?_)|refine brK_ndec (fun _=>?_) (fun _=>?_)|refine brK_not (fun _=>?_) (fun _=>?_)|refine brK_in (fun _=>?_) (fun _=>?_)|refine And.intro (by first|exact rfl|exact ⟨_,rfl,rfl⟩|exact ⟨rfl,rfl,rfl⟩|exact of_decide_eq_true rfl|exact trivial|assumption|omega|(show (_ ≤ _ ∧ _ ≤ _); omega)|(simp; omega)|exact ⟨by first|omega|(simp; omega),_,rfl,rfl⟩) ?_|refine Quo.l (And.intro (by first|exact rfl|assumption|omega|(simp; omega)) ?_)|refine Quo.r (And.intro (by omega) ?_)|refine Both.mk ?_ ?_|refine Exists.intro _ (And.intro rfl ?_)|refine fun _=>?_))|exact rfl)
  exact h
def sgV (p d g : Int) : Bool := inR p 1 996 && (inR d 0 990 && (inR g 1 996 && chkV p d g))
def c_spec_SignCheck : Con := ⟨0, 0, false, fun xs hs _ K => match xs with
  | [.val (.int .i64 p), .val (.int .i64 d), .val (.int .i64 g)] => hs = [] ∧ K (B (sgV p d g)) [] []
  | _ => False⟩
def certV (c k : List Int) (d : Int) (s : List Int) (m : Int) : Bool :=
  keysV c k && (inR d 0 990 && (memV c s && (inR m 0 996 && (decide (quo c ≤ wgt c s) && chkV (wgt k s % 997) d m))))
theorem keys_out {c k : List Int} (h : keysV c k = true) : comV c = true ∧ k.length = c.length ∧ 1 ≤ c.length ∧ c.length ≤ 7 ∧ (∀ x ∈ c, 0 ≤ x ∧ x ≤ 999) ∧ ∀ x ∈ k, 0 ≤ x ∧ x ≤ 999 := by
  simp only [keysV, Bool.and_eq_true, List.all_eq_true, decide_eq_true_eq] at h
  obtain ⟨h1, h2, h3⟩ := h
  obtain ⟨l1, l2, l3⟩ := com_out h2
  exact ⟨h2, h3, l1, l2, l3, fun x hx => by have := inR_out (h1 x hx); omega⟩
def c_spec_CertCheck : Con := ⟨0, 0, false, fun xs hs _ K => match xs with
  | [.ints c, .ints k, .agg [.val (.int .i64 d), .ints s, .val (.int .i64 m)]] => hs = [] ∧ c.length < 2000000 ∧ k.length < 2000000 ∧ s.length < 2000000 ∧ K (B (certV c k d s m)) [] []
  | _ => False⟩
theorem k_spec_CertCheck : Keeps' Tryd.prog 34 c_spec_CertCheck := by
  refine keeps_of_vc mix TyT_ok (cok_cons k_spec_l4Keys Tryd.func30 rfl rfl (cok_cons k_spec_l2Digest Tryd.func32 rfl rfl (cok_cons k_spec_l1Members Tryd.func47 rfl rfl (cok_cons k_spec_l6In Tryd.func31 rfl rfl (cok_cons k_spec_l1Weight Tryd.func48 rfl rfl (cok_cons k_spec_l1Quorum Tryd.func49 rfl rfl (cok_cons k_spec_l4Check Tryd.func50 rfl rfl cok_nil))))))) Tryd.func34 rfl rfl rfl ?_
  intro aargs hs Fs K h
  simp only [c_spec_CertCheck] at h
  split at h
  case h_2 => exact h.elim
  rename_i c k d s m
  obtain ⟨rfl, hc, hk, hs, h⟩ := h
  have no : ∀ {b : Bool}, certV c k d s m = b → K (B b) [] [] := fun e => by rw [← e]; exact h
  have small : ∀ {b : Bool}, (keysV c k = false ∨ inR d 0 990 = false ∨ memV c s = false ∨ inR m 0 996 = false) → b = false → K (B b) [] [] := fun e e2 => no (by rw [e2]; rcases e with e | e | e | e <;> simp [certV, e])
  by_cases hall : keysV c k = true ∧ inR d 0 990 = true ∧ memV c s = true ∧ inR m 0 996 = true
  · obtain ⟨a1, a2, a3, a4⟩ := hall
    obtain ⟨b1, b2, b3, b4, b5, b6⟩ := keys_out a1
    have r2 := inR_out a2
    have r4 := inR_out a4
    have hmr : ∀ {i : Nat} {m : Int}, s[i]? = some m → 0 ≤ m ∧ m < c.length := fun h => mem_rng a3 h
    have hsl := mem_len a3
    repeat' (first|((conv=>whnf); (first|refine brK_dec (fun _=>?_) (fun _=>?_)|refine brK_ndec (fun _=>?_) (fun _=>?_)|refine brK_not (fun _=>?_) (fun _=>?_)|refine brK_in (fun _=>?_) (fun _=>?_)|refine And.intro (by first|exact rfl|exact ⟨_,rfl,rfl⟩|exact ⟨rfl,rfl,rfl⟩|exact of_decide_eq_true rfl|exact trivial|assumption|omega|(show (_ ≤ _ ∧ _ ≤ _); omega)|(simp; omega)|exact ⟨by first|omega|(simp; omega),_,rfl,rfl⟩) ?_|refine Quo.l (And.intro (by first|exact rfl|assumption|omega|(simp; omega)) ?_)|refine Quo.r (And.intro (by omega) ?_)|refine Both.mk ?_ ?_|refine Exists.intro _ (And.intro rfl ?_)|refine fun _=>?_))|exact rfl)
    all_goals first
      | (exfalso; simp_all; done)
      | skip
    · rename_i hlt
      exact no (by rw [certV, a1, a2, a3, a4, decide_eq_false (by omega)]; rfl)
    · rename_i hlt
      refine loop_in (ι := Nat) (fun i => mkS 65 [(0, .ints c), (1, .ints k), (5, .ptr 0 0), (6, B false), (7, I (wgt k (s.take i))), (8, I i)] [.cells [I d, .ints s, I m]] Fs) (fun i => i ≤ s.length) (fun i => s.length - i) 0 [0] (Nat.zero_le _) ?_ ?_
      · repeat' (first|((conv=>whnf); (first|refine brK_dec (fun _=>?_) (fun _=>?_)|refine brK_ndec (fun _=>?_) (fun _=>?_)|refine brK_not (fun _=>?_) (fun _=>?_)|refine brK_in (fun _=>?_) (fun _=>?_)|refine And.intro (by first|exact rfl|exact ⟨_,rfl,rfl⟩|exact ⟨rfl,rfl,rfl⟩|exact of_decide_eq_true rfl|exact trivial|assumption|omega|(show (_ ≤ _ ∧ _ ≤ _); omega)|(simp; omega)|exact ⟨by first|omega|(simp; omega),_,rfl,rfl⟩) ?_|refine Quo.l (And.intro (by first|exact rfl|assumption|omega|(simp; omega)) ?_)|refine Quo.r (And.intro (by omega) ?_)|refine Both.mk ?_ ?_|refine Exists.intro _ (And.intro rfl ?_)|refine fun _=>?_))|exact rfl)
      intro i hi
      have hw := wgt_i (s := s) b6 i
      repeat' (first|((conv=>whnf); (first|refine brK_dec (fun _=>?_) (fun _=>?_)|refine brK_ndec (fun _=>?_) (fun _=>?_)|refine brK_not (fun _=>?_) (fun _=>?_)|refine brK_in (fun _=>?_) (fun _=>?_)|refine And.intro (by first|exact rfl|exact (by first|exact (hmr (by assumption)).1|exact (by have := (hmr (by assumption)).2; omega)|exact rng_cell b6 (by assumption) (by omega))|exact ⟨_,rfl,rfl⟩|exact ⟨rfl,rfl,rfl⟩|exact of_decide_eq_true rfl|exact trivial|assumption|omega|(show (_ ≤ _ ∧ _ ≤ _); omega)|(simp; omega)|exact ⟨by first|omega|(simp; omega),_,rfl,rfl⟩) ?_|refine Quo.l (And.intro (by first|exact rfl|exact (by first|exact (hmr (by assumption)).1|exact (by have := (hmr (by assumption)).2; omega)|exact rng_cell b6 (by assumption) (by omega))|assumption|omega|(simp; omega)) ?_)|refine Quo.r (And.intro (by omega) ?_)|refine Both.mk ?_ ?_|refine Exists.intro _ (And.intro rfl ?_)|refine fun _=>?_))|exact rfl)
      · rename_i hil x hx y hy
        refine ⟨i + 1, [0], by omega, by omega, ?_⟩
        have e := wgt_take hx hy
        repeat' (first|((conv=>whnf); (first|refine brK_dec (fun _=>?_) (fun _=>?_)|refine brK_ndec (fun _=>?_) (fun _=>?_)|refine brK_not (fun _=>?_) (fun _=>?_)|refine brK_in (fun _=>?_) (fun _=>?_)|refine And.intro (by first|exact rfl|exact e|exact ⟨_,rfl,rfl⟩|exact ⟨rfl,rfl,rfl⟩|exact of_decide_eq_true rfl|exact trivial|assumption|omega|(show (_ ≤ _ ∧ _ ≤ _); omega)|(simp; omega)|exact ⟨by first|omega|(simp; omega),_,rfl,rfl⟩) ?_|refine Quo.l (And.intro (by first|exact rfl|exact e|assumption|omega|(simp; omega)) ?_)|refine Quo.r (And.intro (by omega) ?_)|refine Both.mk ?_ ?_|refine Exists.intro _ (And.intro rfl ?_)|refine fun _=>?_))|exact rfl)
      · rename_i hil
        have e : s.take i = s := List.take_of_length_le (by omega)
        rw [e] at hw ⊢
        repeat' (first|((conv=>whnf); (first|refine brK_dec (fun _=>?_) (fun _=>?_)|refine brK_ndec (fun _=>?_) (fun _=>?_)|refine brK_not (fun _=>?_) (fun _=>?_)|refine brK_in (fun _=>?_) (fun _=>?_)|refine And.intro (by first|exact rfl|exact ⟨_,rfl,rfl⟩|exact ⟨rfl,rfl,rfl⟩|exact of_decide_eq_true rfl|exact trivial|assumption|omega|(show (_ ≤ _ ∧ _ ≤ _); omega)|(simp; omega)|exact ⟨by first|omega|(simp; omega),_,rfl,rfl⟩) ?_|refine Quo.l (And.intro (by first|exact rfl|assumption|omega|(simp; omega)) ?_)|refine Quo.r (And.intro (by omega) ?_)|refine Both.mk ?_ ?_|refine Exists.intro _ (And.intro rfl ?_)|refine fun _=>?_))|exact rfl)
        exact no (by rw [certV, a1, a2, a3, a4, decide_eq_true (by omega)]; rfl)
  · have hall : keysV c k = false ∨ inR d 0 990 = false ∨ memV c s = false ∨ inR m 0 996 = false := by
      simp only [← Bool.not_eq_true]
      exact Classical.or_iff_not_imp_left.2 fun h1 => Classical.or_iff_not_imp_left.2 fun h2 => Classical.or_iff_not_imp_left.2 fun h3 h4 => hall ⟨Classical.not_not.1 h1, Classical.not_not.1 h2, Classical.not_not.1 h3, h4⟩
    repeat' (first|((conv=>whnf); (first|refine brK_dec (fun _=>?_) (fun _=>?_)|refine brK_ndec (fun _=>?_) (fun _=>?_)|refine brK_not (fun _=>?_) (fun _=>?_)|refine brK_in (fun _=>?_) (fun _=>?_)|refine And.intro (by first|exact rfl|exact ⟨_,rfl,rfl⟩|exact ⟨rfl,rfl,rfl⟩|exact of_decide_eq_true rfl|exact trivial|assumption|omega|(show (_ ≤ _ ∧ _ ≤ _); omega)|(simp; omega)|exact ⟨by first|omega|(simp; omega),_,rfl,rfl⟩) ?_|refine Quo.l (And.intro (by first|exact rfl|assumption|omega|(simp; omega)) ?_)|refine Quo.r (And.intro (by omega) ?_)|refine Both.mk ?_ ?_|refine Exists.intro _ (And.intro rfl ?_)|refine fun _=>?_))|exact rfl)
    · rename_i e1
      exact no (by rw [certV, e1]; rfl)
    · rename_i e1 e2
      exact no (by rw [certV, e1, e2]; rfl)
    · rename_i e1 e2 e3
      exact no (by rw [certV, e1, e2, e3]; rfl)
    · rename_i e1 e2 e3 e4
      exact no (by rw [certV, e1, e2, e3, e4]; rfl)
    · rename_i e1 e2 e3 e4
      rcases hall with e | e | e | e
      · rw [e] at e1; cases e1
      · rw [e] at e2; cases e2
      · rw [e] at e3; cases e3
      · rw [e] at e4; cases e4
def wfV (c k : List Int) (d : Int) (s : List Int) (m : Int) : Bool :=
  keysV c k && (inR d 0 990 && (memV c s && (inR m 0 996 && decide (quo c ≤ wgt c s))))
theorem cert_wf (c k : List Int) (d : Int) (s : List Int) (m : Int) : certV c k d s m = (wfV c k d s m && chkV (wgt k s % 997) d m) := by
  simp only [certV, wfV, Bool.and_assoc]
theorem wgt_mod {c s : List Int} {i : Nat} {m x : Int} (hm : s[i]? = some m) (hx : c[m.toNat]? = some x) : wgt c (s.take (i + 1)) % 997 = (wgt c (s.take i) % 997 + x) % 997 := by
  rw [wgt_take hm hx, Int.emod_add_emod]
def c_impl_examine : Con := ⟨0, 0, true, fun xs hs _ K => match xs with
  | [.ints c, .ints k, .agg [.val (.int .i64 d), .ints s, .val (.int .i64 m)]] => hs = [] ∧ c.length < 2000000 ∧ k.length < 2000000 ∧ s.length < 2000000 ∧
    Both (wfV c k d s m = true → K (.iface 81 (.agg [I d, .ints s, I m, I (wgt k s % 997)])) [] []) (wfV c k d s m = false → K (.iface 83 (.agg [I d, .ints s, I m])) [] [])
  | _ => False⟩
theorem k_impl_examine : Keeps' Tryd.prog 58 c_impl_examine := by
  refine keeps_of_vc mix TyT_ok (cok_cons k_impl_keysFit Tryd.func37 rfl rfl (cok_cons k_impl_isDigest Tryd.func36 rfl rfl (cok_cons k_impl_MembersWeight Tryd.func63 rfl rfl (cok_cons k_impl_CommitteeQuorum Tryd.func64 rfl rfl cok_nil)))) Tryd.func58 rfl rfl rfl ?_
  intro aargs hs Fs K h
  simp only [c_impl_examine] at h
  split at h
  case h_2 => exact h.elim
  rename_i c k d s m
  obtain ⟨rfl, hc, hk, hs, h⟩ := h
  by_cases hall : keysV c k = true ∧ inR d 0 990 = true ∧ inR m 0 996 = true
  · obtain ⟨a1, a2, a4⟩ := hall
    obtain ⟨b1, b2, b3, b4, b5, b6⟩ := keys_out a1
    have r2 := inR_out a2
    have r4 := inR_out a4
    have hq := sum_bound c b5
    have hq2 : 1 ≤ quo c := by unfold quo; omega
    cases a3 : memV c s
    · have e1 : wfV c k d s m = false := by rw [wfV, a1, a2, a3]; rfl
      repeat' (first|((conv=>whnf); (first|refine brK_dec (fun _=>?_) (fun _=>?_)|refine brK_ndec (fun _=>?_) (fun _=>?_)|refine brK_not (fun _=>?_) (fun _=>?_)|refine brK_in (fun _=>?_) (fun _=>?_)|refine And.intro (by first|exact rfl|exact ⟨_,rfl,rfl⟩|exact ⟨rfl,rfl,rfl⟩|exact of_decide_eq_true rfl|exact trivial|assumption|omega|(show (_ ≤ _ ∧ _ ≤ _); omega)|(simp; omega)|exact ⟨by first|omega|(simp; omega),_,rfl,rfl⟩) ?_|refine Quo.l (And.intro (by first|exact rfl|assumption|omega|(simp; omega)) ?_)|refine Quo.r (And.intro (by omega) ?_)|refine Both.mk ?_ ?_|refine Exists.intro _ (And.intro rfl ?_)|refine fun _=>?_))|exact rfl)
      all_goals first
        | (exfalso; simp_all; done)
        | exact h.r e1
        | skip
      · rename_i z
        rw [b1, a3] at z
        simp at z
        omega
    · have hmr : ∀ {i : Nat} {m : Int}, s[i]? = some m → 0 ≤ m ∧ m < c.length := fun h => mem_rng a3 h
      have hsl := mem_len a3
      repeat' (first|((conv=>whnf); (first|refine brK_dec (fun _=>?_) (fun _=>?_)|refine brK_ndec (fun _=>?_) (fun _=>?_)|refine brK_not (fun _=>?_) (fun _=>?_)|refine brK_in (fun _=>?_) (fun _=>?_)|refine And.intro (by first|exact rfl|exact ⟨_,rfl,rfl⟩|exact ⟨rfl,rfl,rfl⟩|exact of_decide_eq_true rfl|exact trivial|assumption|omega|(show (_ ≤ _ ∧ _ ≤ _); omega)|(simp; omega)|exact ⟨by first|omega|(simp; omega),_,rfl,rfl⟩) ?_|refine Quo.l (And.intro (by first|exact rfl|assumption|omega|(simp; omega)) ?_)|refine Quo.r (And.intro (by omega) ?_)|refine Both.mk ?_ ?_|refine Exists.intro _ (And.intro rfl ?_)|refine fun _=>?_))|exact rfl)
      all_goals first
        | (exfalso; simp_all; done)
        | skip
      · exfalso; omega
      · exfalso; omega
      · rename_i z
        rw [b1, a3] at z
        simp at z
        exact h.r (by rw [wfV, a1, a2, a3, a4, decide_eq_false (by omega)]; rfl)
      · rename_i z
        rw [b1, a3] at z
        simp at z
        have e1 : wfV c k d s m = true := by rw [wfV, a1, a2, a3, a4, decide_eq_true (by omega)]; rfl
        refine loop_in (ι := Nat) (fun i => mkS 62 [(0, .ints c), (1, .ints k), (5, .ptr 0 0), (6, .val .nilIface), (7, I (wgt k (s.take i) % 997)), (44, .ints s), (45, I s.length), (46, I i)] [.cells [I d, .ints s, I m]] Fs) (fun i => i ≤ s.length) (fun i => s.length - i) 0 [0] (Nat.zero_le _) ?_ ?_
        · repeat' (first|((conv=>whnf); (first|refine brK_dec (fun _=>?_) (fun _=>?_)|refine brK_ndec (fun _=>?_) (fun _=>?_)|refine brK_not (fun _=>?_) (fun _=>?_)|refine brK_in (fun _=>?_) (fun _=>?_)|refine And.intro (by first|exact rfl|exact ⟨_,rfl,rfl⟩|exact ⟨rfl,rfl,rfl⟩|exact of_decide_eq_true rfl|exact trivial|assumption|omega|(show (_ ≤ _ ∧ _ ≤ _); omega)|(simp; omega)|exact ⟨by first|omega|(simp; omega),_,rfl,rfl⟩) ?_|refine Quo.l (And.intro (by first|exact rfl|assumption|omega|(simp; omega)) ?_)|refine Quo.r (And.intro (by omega) ?_)|refine Both.mk ?_ ?_|refine Exists.intro _ (And.intro rfl ?_)|refine fun _=>?_))|exact rfl)
        intro i hi
        have hw := wgt_i (s := s) b6 i
        repeat' (first|((conv=>whnf); (first|refine brK_dec (fun _=>?_) (fun _=>?_)|refine brK_ndec (fun _=>?_) (fun _=>?_)|refine brK_not (fun _=>?_) (fun _=>?_)|refine brK_in (fun _=>?_) (fun _=>?_)|refine And.intro (by first|exact rfl|exact (by first|exact (hmr (by assumption)).1|exact (by have := (hmr (by assumption)).2; omega)|exact rng_cell b6 (by assumption) (by omega)|exact cell_use b6 (by assumption) (by omega))|exact ⟨_,rfl,rfl⟩|exact ⟨rfl,rfl,rfl⟩|exact of_decide_eq_true rfl|exact trivial|assumption|omega|(show (_ ≤ _ ∧ _ ≤ _); omega)|(simp; omega)|exact ⟨by first|omega|(simp; omega),_,rfl,rfl⟩) ?_|refine Quo.l (And.intro (by first|exact rfl|exact (by first|exact (hmr (by assumption)).1|exact (by have := (hmr (by assumption)).2; omega)|exact rng_cell b6 (by assumption) (by omega)|exact cell_use b6 (by assumption) (by omega))|assumption|omega|(simp; omega)) ?_)|refine Quo.r (And.intro (by omega) ?_)|refine Both.mk ?_ ?_|refine Exists.intro _ (And.intro rfl ?_)|refine fun _=>?_))|exact rfl)
        · rename_i hil x hx y hy
          refine ⟨i + 1, [0], by omega, by omega, ?_⟩
          have e := wgt_mod hx hy
          repeat' (first|((conv=>whnf); (first|refine brK_dec (fun _=>?_) (fun _=>?_)|refine brK_ndec (fun _=>?_) (fun _=>?_)|refine brK_not (fun _=>?_) (fun _=>?_)|refine brK_in (fun _=>?_) (fun _=>?_)|refine And.intro (by first|exact rfl|exact e|exact ⟨_,rfl,rfl⟩|exact ⟨rfl,rfl,rfl⟩|exact of_decide_eq_true rfl|exact trivial|assumption|omega|(show (_ ≤ _ ∧ _ ≤ _); omega)|(simp; omega)|exact ⟨by first|omega|(simp; omega),_,rfl,rfl⟩) ?_|refine Quo.l (And.intro (by first|exact rfl|exact e|assumption|omega|(simp; omega)) ?_)|refine Quo.r (And.intro (by omega) ?_)|refine Both.mk ?_ ?_|refine Exists.intro _ (And.intro rfl ?_)|refine fun _=>?_))|exact rfl)
        · rename_i hil
          have e : s.take i = s := List.take_of_length_le (by omega)
          rw [e]
          exact h.l e1
  · have e1 : wfV c k d s m = false := by
      rw [wfV]
      cases a1 : keysV c k
      · rfl
      cases a2 : inR d 0 990
      · rfl
      cases a3 : memV c s
      · rfl
      cases a4 : inR m 0 996
      · rfl
      exact absurd ⟨a1, a2, a4⟩ hall
    repeat' (first|((conv=>whnf); (first|refine brK_dec (fun _=>?_) (fun _=>?_)|refine brK_ndec (fun _=>?_) (fun _=>?_)|refine brK_not (fun _=>?_) (fun _=>?_)|refine brK_in (fun _=>?_) (fun _=>?_)|refine And.intro (by first|exact rfl|exact ⟨_,rfl,rfl⟩|exact ⟨rfl,rfl,rfl⟩|exact of_decide_eq_true rfl|exact trivial|assumption|omega|(show (_ ≤ _ ∧ _ ≤ _); omega)|(simp; omega)|exact ⟨by first|omega|(simp; omega),_,rfl,rfl⟩) ?_|refine Quo.l (And.intro (by first|exact rfl|assumption|omega|(simp; omega)) ?_)|refine Quo.r (And.intro (by omega) ?_)|refine Both.mk ?_ ?_|refine Exists.intro _ (And.intro rfl ?_)|refine fun _=>?_))|exact rfl)
    all_goals first
      | exact h.r e1
      | skip
    · rename_i z1 z2 z3 z4 z5
      exact absurd ⟨z1, z2, by simp [inR]; omega⟩ hall
theorem k_impl_CertCheck : Keeps' Tryd.prog 41 c_spec_CertCheck := by
  refine keeps_of_vc mix TyT_ok (cok_cons k_impl_examine Tryd.func58 rfl rfl cok_nil) Tryd.func41 rfl rfl rfl ?_
  intro aargs hs Fs K h
  simp only [c_spec_CertCheck] at h
  split at h
  case h_2 => exact h.elim
  rename_i c k d s m
  obtain ⟨rfl, hc, hk, hs, h⟩ := h
  rw [cert_wf] at h
  cases e1 : wfV c k d s m
  · rw [e1, Bool.false_and] at h
    repeat' (first|((conv=>whnf); (first|refine brK_dec (fun _=>?_) (fun _=>?_)|refine brK_ndec (fun _=>?_) (fun _=>?_)|refine brK_not (fun _=>?_) (fun _=>?_)|refine brK_in (fun _=>?_) (fun _=>?_)|refine And.intro (by first|exact rfl|exact ⟨_,rfl,rfl⟩|exact ⟨rfl,rfl,rfl⟩|exact of_decide_eq_true rfl|exact trivial|assumption|omega|(show (_ ≤ _ ∧ _ ≤ _); omega)|(simp; omega)|exact ⟨by first|omega|(simp; omega),_,rfl,rfl⟩) ?_|refine Quo.l (And.intro (by first|exact rfl|assumption|omega|(simp; omega)) ?_)|refine Quo.r (And.intro (by omega) ?_)|refine Both.mk ?_ ?_|refine Exists.intro _ (And.intro rfl ?_)|refine fun _=>?_))|exact rfl)
    all_goals first
      | exact h
      | (exfalso; simp_all; done)
  · rw [e1, Bool.true_and] at h
    have e2 := e1
    simp only [wfV, Bool.and_eq_true] at e2
    have r2 := inR_out e2.2.1
    have r4 := inR_out e2.2.2.2.1
    have hb := mul_bound (a := wgt k s % 997) (b := d + 1) (by omega) (by omega) (by omega) (by omega)
    repeat' (first|((conv=>whnf); (first|refine brK_dec (fun _=>?_) (fun _=>?_)|refine brK_ndec (fun _=>?_) (fun _=>?_)|refine brK_not (fun _=>?_) (fun _=>?_)|refine brK_in (fun _=>?_) (fun _=>?_)|refine And.intro (by first|exact rfl|exact ⟨_,rfl,rfl⟩|exact ⟨rfl,rfl,rfl⟩|exact of_decide_eq_true rfl|exact trivial|assumption|omega|(show (_ ≤ _ ∧ _ ≤ _); omega)|(simp; omega)|exact ⟨by first|omega|(simp; omega),_,rfl,rfl⟩) ?_|refine Quo.l (And.intro (by first|exact rfl|assumption|omega|(simp; omega)) ?_)|refine Quo.r (And.intro (by omega) ?_)|refine Both.mk ?_ ?_|refine Exists.intro _ (And.intro rfl ?_)|refine fun _=>?_))|exact rfl)
    all_goals first
      | exact h
      | (exfalso; simp_all; done)
end Go.Proofs.YtdljacpmoaeepaaDoor
