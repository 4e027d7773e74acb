/-
The laws' own functions on links: sizes, copies, comparisons, marks.
No conditions.
-/
import Derived.Test.YtdljacpmoaeepaaDoorZvX
namespace Go.Proofs.YtdljacpmoaeepaaDoor
open Go Go.Vc
set_option maxHeartbeats 2000000
set_option maxRecDepth 10000
def c_laws_szCert : Con := ⟨0, 0, false, fun xs hs _ K => match xs with
  | [.agg [.val (.int .i64 _), .ints s, .val (.int .i64 _)], .val (.int .i64 n)] => hs = [] ∧ s.length ≤ 9223372036854775807 ∧ 0 ≤ n ∧ n ≤ 1048576 ∧ K (I (szI s n)) [] []
  | _ => False⟩
theorem k_laws_szCert : Keeps' Tryd.prog 29 c_laws_szCert := by
  refine keeps_of_vc mix TyT_ok (cok_cons k_laws_szIntS Tryd.func15 rfl rfl cok_nil) Tryd.func29 rfl rfl rfl ?_
  intro aargs hs Fs K h
  simp only [c_laws_szCert] at h
  split at h
  case h_2 => exact h.elim
  rename_i d s m n
  obtain ⟨rfl, hs, h0, h1, h⟩ := h
  have no : ∀ {b : Int}, szI s n = b → K (I b) [] [] := fun e => by rw [← e]; exact h
  repeat' (first|((conv=>whnf); (first|refine brK_dec (fun _=>?_) (fun _=>?_)|refine brK_ndec (fun _=>?_) (fun _=>?_)|refine brK_not (fun _=>?_) (fun _=>?_)|refine brK_in (fun _=>?_) (fun _=>?_)|refine And.intro (by first|exact rfl|exact ⟨_,rfl,rfl⟩|exact ⟨rfl,rfl,rfl⟩|exact of_decide_eq_true rfl|exact trivial|assumption|omega|(show (_ ≤ _ ∧ _ ≤ _); omega)|(simp; omega)|exact ⟨by first|omega|(simp; omega),_,rfl,rfl⟩) ?_|refine Quo.l (And.intro (by first|exact rfl|assumption|omega|(simp; omega)) ?_)|refine Quo.r (And.intro (by omega) ?_)|refine Both.mk ?_ ?_|refine Exists.intro _ (And.intro rfl ?_)|refine fun _=>?_))|exact rfl)
  · rename_i h2; exact no (szI_neg h2)
  · exact h
theorem szE_neg {c k : List Int} {n : Int} (h : szE c k n < 0) : szE c k n = -1 := by
  unfold szE at *
  split at h
  · rename_i hn; rw [if_pos hn]
  · rename_i hn; rw [if_neg hn]; exact szI_neg h
theorem szE_top {c k : List Int} {n : Int} (h : ¬ szE c k n < 0) : szE c k n ≤ n := by
  unfold szE at *
  split at h
  · omega
  · rename_i h1
    rw [if_neg h1]
    have h2 := szI_le (l := c) (n := n) (by omega)
    have h3 := szI_le (l := k) (n := szI c n) (by omega)
    omega
def szL (c k s : List Int) (n : Int) : Int := if szE c k n < 0 then -1 else szI s (szE c k n)
def c_laws_szLink : Con := ⟨0, 0, false, fun xs hs _ K => match xs with
  | [.agg [.val (.int .i64 _), .ints c, .ints k, .val (.int .i64 _), .val (.int .i64 _), .ints s, .val (.int .i64 _)], .val (.int .i64 n)] => hs = [] ∧ c.length ≤ 9223372036854775807 ∧ k.length ≤ 9223372036854775807 ∧ s.length ≤ 9223372036854775807 ∧ 0 ≤ n ∧ n ≤ 1048576 ∧ K (I (szL c k s n)) [] []
  | _ => False⟩
theorem k_laws_szLink : Keeps' Tryd.prog 16 c_laws_szLink := by
  refine keeps_of_vc mix TyT_ok (cok_cons k_laws_szEpoch Tryd.func4 rfl rfl (cok_cons k_laws_szCert Tryd.func29 rfl rfl cok_nil)) Tryd.func16 rfl rfl rfl ?_
  intro aargs hs Fs K h
  simp only [c_laws_szLink] at h
  split at h
  case h_2 => exact h.elim
  rename_i n1 c k r d s m n
  obtain ⟨rfl, hc, hk, hs, h0, h1, h⟩ := h
  have no : ∀ {b : Int}, szL c k s n = b → K (I b) [] [] := fun e => by rw [← e]; exact h
  repeat' (first|((conv=>whnf); (first|refine brK_dec (fun _=>?_) (fun _=>?_)|refine brK_ndec (fun _=>?_) (fun _=>?_)|refine brK_not (fun _=>?_) (fun _=>?_)|refine brK_in (fun _=>?_) (fun _=>?_)|refine And.intro (by first|exact rfl|exact ⟨_,rfl,rfl⟩|exact ⟨rfl,rfl,rfl⟩|exact of_decide_eq_true rfl|exact trivial|assumption|omega|(show (_ ≤ _ ∧ _ ≤ _); omega)|(simp; omega)|exact ⟨by first|omega|(simp; omega),_,rfl,rfl⟩) ?_|refine Quo.l (And.intro (by first|exact rfl|assumption|omega|(simp; omega)) ?_)|refine Quo.r (And.intro (by omega) ?_)|refine Both.mk ?_ ?_|refine Exists.intro _ (And.intro rfl ?_)|refine fun _=>?_))|exact rfl)
  · rename_i h2; exact no (by simp [szL, h2])
  · rename_i h2
    have := szE_top h2
    repeat' (first|((conv=>whnf); (first|refine brK_dec (fun _=>?_) (fun _=>?_)|refine brK_ndec (fun _=>?_) (fun _=>?_)|refine brK_not (fun _=>?_) (fun _=>?_)|refine brK_in (fun _=>?_) (fun _=>?_)|refine And.intro (by first|exact rfl|exact ⟨_,rfl,rfl⟩|exact ⟨rfl,rfl,rfl⟩|exact of_decide_eq_true rfl|exact trivial|assumption|omega|(show (_ ≤ _ ∧ _ ≤ _); omega)|(simp; omega)|exact ⟨by first|omega|(simp; omega),_,rfl,rfl⟩) ?_|refine Quo.l (And.intro (by first|exact rfl|assumption|omega|(simp; omega)) ?_)|refine Quo.r (And.intro (by omega) ?_)|refine Both.mk ?_ ?_|refine Exists.intro _ (And.intro rfl ?_)|refine fun _=>?_))|exact rfl)
    · rename_i h3; exact no (by simp [szL, h2, szI_neg h3])
    · rename_i h3; exact no (by simp [szL, h2])
theorem szL_le {c k s : List Int} {n : Int} (hn : n ≤ 1048576) (h : ¬ szL c k s n < 0) : c.length ≤ 1048576 ∧ k.length ≤ 1048576 ∧ s.length ≤ 1048576 ∧ szL c k s n ≤ n := by
  unfold szL at *
  split at h
  · omega
  · rename_i h1
    rw [if_neg h1]
    have h2 := szE_le hn h1
    have h3 := szE_top h1
    have h4 := szI_le (l := s) (n := szE c k n) (by omega)
    exact ⟨h2.1, h2.2, by omega, by omega⟩
def c_laws_toCert : Con := ⟨1, 0, false, fun xs hs _ K => match xs with
  | [.agg [.val (.int .i64 d), .ints s, .val (.int .i64 m)]] => hs = [] ∧ s.length ≤ 1048576 ∧ K (.agg [I d, .own 0, I m]) [.iarr s] []
  | _ => False⟩
theorem k_laws_toCert : Keeps' Tryd.prog 35 c_laws_toCert := by
  refine keeps_of_vc mix TyT_ok (cok_cons k_laws_toIntS Tryd.func20 rfl rfl cok_nil) Tryd.func35 rfl rfl rfl ?_
  intro aargs hs Fs K h
  simp only [c_laws_toCert] at h
  split at h
  case h_2 => exact h.elim
  rename_i d s m
  obtain ⟨rfl, hs, h⟩ := h
  repeat' (first|((conv=>whnf); (first|refine brK_dec (fun _=>?_) (fun _=>?_)|refine brK_ndec (fun _=>?_) (fun _=>?_)|refine brK_not (fun _=>?_) (fun _=>?_)|refine brK_in (fun _=>?_) (fun _=>?_)|refine And.intro (by first|exact rfl|exact ⟨_,rfl,rfl⟩|exact ⟨rfl,rfl,rfl⟩|exact of_decide_eq_true rfl|exact trivial|assumption|omega|(show (_ ≤ _ ∧ _ ≤ _); omega)|(simp; omega)|exact ⟨by first|omega|(simp; omega),_,rfl,rfl⟩) ?_|refine Quo.l (And.intro (by first|exact rfl|assumption|omega|(simp; omega)) ?_)|refine Quo.r (And.intro (by omega) ?_)|refine Both.mk ?_ ?_|refine Exists.intro _ (And.intro rfl ?_)|refine fun _=>?_))|exact rfl)
  exact h
def c_laws_toLink : Con := ⟨3, 0, false, fun xs hs _ K => match xs with
  | [.agg [.val (.int .i64 n), .ints c, .ints k, .val (.int .i64 r), .val (.int .i64 d), .ints s, .val (.int .i64 m)]] => hs = [] ∧ c.length ≤ 1048576 ∧ k.length ≤ 1048576 ∧ s.length ≤ 1048576 ∧ K (.agg [I n, .own 0, .own 1, I r, I d, .own 2, I m]) [.iarr c, .iarr k, .iarr s] []
  | _ => False⟩
theorem k_laws_toLink : Keeps' Tryd.prog 21 c_laws_toLink := by
  refine keeps_of_vc mix TyT_ok (cok_cons k_laws_toEpoch Tryd.func7 rfl rfl (cok_cons k_laws_toCert Tryd.func35 rfl rfl cok_nil)) Tryd.func21 rfl rfl rfl ?_
  intro aargs hs Fs K h
  simp only [c_laws_toLink] at h
  split at h
  case h_2 => exact h.elim
  rename_i n c k r d s m
  obtain ⟨rfl, hc, hk, hs, h⟩ := h
  repeat' (first|((conv=>whnf); (first|refine brK_dec (fun _=>?_) (fun _=>?_)|refine brK_ndec (fun _=>?_) (fun _=>?_)|refine brK_not (fun _=>?_) (fun _=>?_)|refine brK_in (fun _=>?_) (fun _=>?_)|refine And.intro (by first|exact rfl|exact ⟨_,rfl,rfl⟩|exact ⟨rfl,rfl,rfl⟩|exact of_decide_eq_true rfl|exact trivial|assumption|omega|(show (_ ≤ _ ∧ _ ≤ _); omega)|(simp; omega)|exact ⟨by first|omega|(simp; omega),_,rfl,rfl⟩) ?_|refine Quo.l (And.intro (by first|exact rfl|assumption|omega|(simp; omega)) ?_)|refine Quo.r (And.intro (by omega) ?_)|refine Both.mk ?_ ?_|refine Exists.intro _ (And.intro rfl ?_)|refine fun _=>?_))|exact rfl)
  exact h
def c_laws_eqCert : Con := ⟨0, 0, false, fun xs hs _ K => match xs with
  | [.agg [.val (.int .i64 d), .ints s, .val (.int .i64 m)], .agg [.val (.int .i64 d'), .ints s', .val (.int .i64 m')]] =>
    hs = [] ∧ s.length < 2000000 ∧ s'.length < 2000000 ∧ K (B (decide (d = d' ∧ s = s' ∧ m = m'))) [] []
  | _ => False⟩
theorem k_laws_eqCert : Keeps' Tryd.prog 42 c_laws_eqCert := by
  refine keeps_of_vc mix TyT_ok (cok_cons k_laws_eqIntS Tryd.func25 rfl rfl cok_nil) Tryd.func42 rfl rfl rfl ?_
  intro aargs hs Fs K h
  simp only [c_laws_eqCert] at h
  split at h
  case h_2 => exact h.elim
  rename_i d s m d' s' m'
  obtain ⟨rfl, h1, h2, h⟩ := h
  have no : ∀ {b : Bool}, decide (d = d' ∧ s = s' ∧ m = m') = b → K (B b) [] [] := fun e => by rw [← e]; exact h
  repeat' (first|((conv=>whnf); (first|refine brK_dec (fun _=>?_) (fun _=>?_)|refine brK_ndec (fun _=>?_) (fun _=>?_)|refine brK_not (fun _=>?_) (fun _=>?_)|refine brK_in (fun _=>?_) (fun _=>?_)|refine And.intro (by first|exact rfl|exact ⟨_,rfl,rfl⟩|exact ⟨rfl,rfl,rfl⟩|exact of_decide_eq_true rfl|exact trivial|assumption|omega|(show (_ ≤ _ ∧ _ ≤ _); omega)|(simp; omega)|exact ⟨by first|omega|(simp; omega),_,rfl,rfl⟩) ?_|refine Quo.l (And.intro (by first|exact rfl|assumption|omega|(simp; omega)) ?_)|refine Quo.r (And.intro (by omega) ?_)|refine Both.mk ?_ ?_|refine Exists.intro _ (And.intro rfl ?_)|refine fun _=>?_))|exact rfl)
  · rename_i g1; exact no (by simp [g1])
  · rename_i g1 g2; exact no (by simp [g2])
  · rename_i g1 g2 g3; exact no (by simp [g3])
  · rename_i g1 g2 g3; exact no (by simp_all)
def c_laws_eqLink : Con := ⟨0, 0, false, fun xs hs _ K => match xs with
  | [.agg [.val (.int .i64 n), .ints c, .ints k, .val (.int .i64 r), .val (.int .i64 d), .ints s, .val (.int .i64 m)], .agg [.val (.int .i64 n'), .ints c', .ints k', .val (.int .i64 r'), .val (.int .i64 d'), .ints s', .val (.int .i64 m')]] =>
    hs = [] ∧ c.length < 2000000 ∧ k.length < 2000000 ∧ s.length < 2000000 ∧ c'.length < 2000000 ∧ k'.length < 2000000 ∧ s'.length < 2000000 ∧
    K (B (decide ((n = n' ∧ c = c' ∧ k = k' ∧ r = r') ∧ (d = d' ∧ s = s' ∧ m = m')))) [] []
  | _ => False⟩
theorem k_laws_eqLink : Keeps' Tryd.prog 26 c_laws_eqLink := by
  refine keeps_of_vc mix TyT_ok (cok_cons k_laws_eqEpoch Tryd.func10 rfl rfl (cok_cons k_laws_eqCert Tryd.func42 rfl rfl cok_nil)) Tryd.func26 rfl rfl rfl ?_
  intro aargs hs Fs K h
  simp only [c_laws_eqLink] at h
  split at h
  case h_2 => exact h.elim
  rename_i n c k r d s m n' c' k' r' d' s' m'
  obtain ⟨rfl, h1, h2, h3, h4, h5, h6, h⟩ := h
  have no : ∀ {b : Bool}, decide ((n = n' ∧ c = c' ∧ k = k' ∧ r = r') ∧ (d = d' ∧ s = s' ∧ m = m')) = b → K (B b) [] [] := fun e => by rw [← e]; exact h
  repeat' (first|((conv=>whnf); (first|refine brK_dec (fun _=>?_) (fun _=>?_)|refine brK_ndec (fun _=>?_) (fun _=>?_)|refine brK_not (fun _=>?_) (fun _=>?_)|refine brK_in (fun _=>?_) (fun _=>?_)|refine And.intro (by first|exact rfl|exact ⟨_,rfl,rfl⟩|exact ⟨rfl,rfl,rfl⟩|exact of_decide_eq_true rfl|exact trivial|assumption|omega|(show (_ ≤ _ ∧ _ ≤ _); omega)|(simp; omega)|exact ⟨by first|omega|(simp; omega),_,rfl,rfl⟩) ?_|refine Quo.l (And.intro (by first|exact rfl|assumption|omega|(simp; omega)) ?_)|refine Quo.r (And.intro (by omega) ?_)|refine Both.mk ?_ ?_|refine Exists.intro _ (And.intro rfl ?_)|refine fun _=>?_))|exact rfl)
  · rename_i g1; exact no (by simp only [decide_eq_false_iff_not]; exact fun g => g1 g.1)
  · rename_i g1 g2; exact no (by simp only [decide_eq_false_iff_not]; exact fun g => g2 g.2)
  · rename_i g1 g2; exact no (by simp only [decide_eq_true_eq]; exact ⟨g1, g2⟩)
end Go.Proofs.YtdljacpmoaeepaaDoor
