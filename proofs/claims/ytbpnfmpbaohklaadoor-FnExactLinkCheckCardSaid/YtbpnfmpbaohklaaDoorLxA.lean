/-
The laws' own functions on links: sizes, copies, comparisons, marks.
No conditions.
-/
import Derived.Test.YtbpnfmpbaohklaaDoorLxE
namespace Go.Proofs.YtbpnfmpbaohklaaDoor
open Go Go.Vc
set_option maxHeartbeats 2000000
set_option maxRecDepth 10000
def c_laws_szCert : Con := ⟨0, 0, false, fun xs hs _ K => match xs with
  | [.agg [.val (.int .i64 _), .ints s, .val (.int .i64 _)], .val (.int .i64 n)] => hs = [] ∧ s.length ≤ 9223372036854775807 ∧ 0 ≤ n ∧ n ≤ 1048576 ∧ K (I (szI s n)) [] []
  | _ => False⟩
theorem k_laws_szCert : Keeps' Tryd.prog 49 c_laws_szCert := by
  refine keeps_of_vc mix TyT_ok (cok_cons k_laws_szIntS Tryd.func48 rfl rfl cok_nil) Tryd.func49 rfl rfl rfl ?_
  intro aargs hs Fs K h
  simp only [c_laws_szCert] at h
  split at h
  case h_2 => exact h.elim
  rename_i d s m n
  obtain ⟨rfl, hs, h0, h1, h⟩ := h
  have no : ∀ {b : Int}, szI s n = b → K (I b) [] [] := fun e => by rw [← e]; exact h
  repeat' (first
    | ((conv => whnf); (first
      | refine brK_dec (fun _ => ?_) (fun _ => ?_)
      | refine brK_ndec (fun _ => ?_) (fun _ => ?_)
      | refine brK_not (fun _ => ?_) (fun _ => ?_)
      | refine brK_in (fun _ => ?_) (fun _ => ?_)
      | refine And.intro (by first | exact rfl | exact ⟨_, rfl, rfl⟩ | exact ⟨rfl, rfl, rfl⟩ | exact of_decide_eq_true rfl | exact trivial | assumption | omega | (show (_ ≤ _ ∧ _ ≤ _); omega) | (simp; omega) | exact ⟨by first | omega | (simp; omega), _, rfl, rfl⟩) ?_
      | refine Both.mk ?_ ?_
      | refine Exists.intro _ (And.intro rfl ?_)
      | refine fun _ => ?_))
    | exact rfl)
  · rename_i h2; exact no (szI_neg h2)
  · exact h
theorem szE_neg {c k : List Int} {n : Int} (h : szE c k n < 0) : szE c k n = -1 := by
  unfold szE at *
  split at h
  · rename_i hn; rw [if_pos hn]
  · rename_i hn; rw [if_neg hn]; exact szI_neg h
theorem szE_top {c k : List Int} {n : Int} (h : ¬ szE c k n < 0) : szE c k n ≤ n := by
  unfold szE at *
  split at h
  · omega
  · rename_i h1
    rw [if_neg h1]
    have h2 := szI_le (l := c) (n := n) (by omega)
    have h3 := szI_le (l := k) (n := szI c n) (by omega)
    omega
def szL (c k s : List Int) (n : Int) : Int := if szE c k n < 0 then -1 else szI s (szE c k n)
def c_laws_szLink : Con := ⟨0, 0, false, fun xs hs _ K => match xs with
  | [.agg [.val (.int .i64 _), .ints c, .ints k, .val (.int .i64 _), .val (.int .i64 _), .ints s, .val (.int .i64 _)], .val (.int .i64 n)] => hs = [] ∧ c.length ≤ 9223372036854775807 ∧ k.length ≤ 9223372036854775807 ∧ s.length ≤ 9223372036854775807 ∧ 0 ≤ n ∧ n ≤ 1048576 ∧ K (I (szL c k s n)) [] []
  | _ => False⟩
theorem k_laws_szLink : Keeps' Tryd.prog 13 c_laws_szLink := by
  refine keeps_of_vc mix TyT_ok (cok_cons k_laws_szEpoch Tryd.func12 rfl rfl (cok_cons k_laws_szCert Tryd.func49 rfl rfl cok_nil)) Tryd.func13 rfl rfl rfl ?_
  intro aargs hs Fs K h
  simp only [c_laws_szLink] at h
  split at h
  case h_2 => exact h.elim
  rename_i n1 c k r d s m n
  obtain ⟨rfl, hc, hk, hs, h0, h1, h⟩ := h
  have no : ∀ {b : Int}, szL c k s n = b → K (I b) [] [] := fun e => by rw [← e]; exact h
  repeat' (first
    | ((conv => whnf); (first
      | refine brK_dec (fun _ => ?_) (fun _ => ?_)
      | refine brK_ndec (fun _ => ?_) (fun _ => ?_)
      | refine brK_not (fun _ => ?_) (fun _ => ?_)
      | refine brK_in (fun _ => ?_) (fun _ => ?_)
      | refine And.intro (by first | exact rfl | exact ⟨_, rfl, rfl⟩ | exact ⟨rfl, rfl, rfl⟩ | exact of_decide_eq_true rfl | exact trivial | assumption | omega | (show (_ ≤ _ ∧ _ ≤ _); omega) | (simp; omega) | exact ⟨by first | omega | (simp; omega), _, rfl, rfl⟩) ?_
      | refine Both.mk ?_ ?_
      | refine Exists.intro _ (And.intro rfl ?_)
      | refine fun _ => ?_))
    | exact rfl)
  · rename_i h2; exact no (by simp [szL, h2])
  · rename_i h2
    have := szE_top h2
    repeat' (first
      | ((conv => whnf); (first
        | refine brK_dec (fun _ => ?_) (fun _ => ?_)
        | refine brK_ndec (fun _ => ?_) (fun _ => ?_)
        | refine brK_not (fun _ => ?_) (fun _ => ?_)
        | refine brK_in (fun _ => ?_) (fun _ => ?_)
        | refine And.intro (by first | exact rfl | exact ⟨_, rfl, rfl⟩ | exact ⟨rfl, rfl, rfl⟩ | exact of_decide_eq_true rfl | exact trivial | assumption | omega | (show (_ ≤ _ ∧ _ ≤ _); omega) | (simp; omega) | exact ⟨by first | omega | (simp; omega), _, rfl, rfl⟩) ?_
        | refine Both.mk ?_ ?_
        | refine Exists.intro _ (And.intro rfl ?_)
        | refine fun _ => ?_))
      | exact rfl)
    · rename_i h3; exact no (by simp [szL, h2, szI_neg h3])
    · rename_i h3; exact no (by simp [szL, h2])
theorem szL_le {c k s : List Int} {n : Int} (hn : n ≤ 1048576) (h : ¬ szL c k s n < 0) : c.length ≤ 1048576 ∧ k.length ≤ 1048576 ∧ s.length ≤ 1048576 ∧ szL c k s n ≤ n := by
  unfold szL at *
  split at h
  · omega
  · rename_i h1
    rw [if_neg h1]
    have h2 := szE_le hn h1
    have h3 := szE_top h1
    have h4 := szI_le (l := s) (n := szE c k n) (by omega)
    exact ⟨h2.1, h2.2, by omega, by omega⟩
def c_laws_toCert : Con := ⟨1, 0, false, fun xs hs _ K => match xs with
  | [.agg [.val (.int .i64 d), .ints s, .val (.int .i64 m)]] => hs = [] ∧ s.length ≤ 1048576 ∧ K (.agg [I d, .own 0, I m]) [.iarr s] []
  | _ => False⟩
theorem k_laws_toCert : Keeps' Tryd.prog 53 c_laws_toCert := by
  refine keeps_of_vc mix TyT_ok (cok_cons k_laws_toIntS Tryd.func28 rfl rfl cok_nil) Tryd.func53 rfl rfl rfl ?_
  intro aargs hs Fs K h
  simp only [c_laws_toCert] at h
  split at h
  case h_2 => exact h.elim
  rename_i d s m
  obtain ⟨rfl, hs, h⟩ := h
  repeat' (first
    | ((conv => whnf); (first
      | refine brK_dec (fun _ => ?_) (fun _ => ?_)
      | refine brK_ndec (fun _ => ?_) (fun _ => ?_)
      | refine brK_not (fun _ => ?_) (fun _ => ?_)
      | refine brK_in (fun _ => ?_) (fun _ => ?_)
      | refine And.intro (by first | exact rfl | exact ⟨_, rfl, rfl⟩ | exact ⟨rfl, rfl, rfl⟩ | exact of_decide_eq_true rfl | exact trivial | assumption | omega | (show (_ ≤ _ ∧ _ ≤ _); omega) | (simp; omega) | exact ⟨by first | omega | (simp; omega), _, rfl, rfl⟩) ?_
      | refine Both.mk ?_ ?_
      | refine Exists.intro _ (And.intro rfl ?_)
      | refine fun _ => ?_))
    | exact rfl)
  exact h
def c_laws_toLink : Con := ⟨3, 0, false, fun xs hs _ K => match xs with
  | [.agg [.val (.int .i64 n), .ints c, .ints k, .val (.int .i64 r), .val (.int .i64 d), .ints s, .val (.int .i64 m)]] => hs = [] ∧ c.length ≤ 1048576 ∧ k.length ≤ 1048576 ∧ s.length ≤ 1048576 ∧ K (.agg [I n, .own 0, .own 1, I r, I d, .own 2, I m]) [.iarr c, .iarr k, .iarr s] []
  | _ => False⟩
theorem k_laws_toLink : Keeps' Tryd.prog 16 c_laws_toLink := by
  refine keeps_of_vc mix TyT_ok (cok_cons k_laws_toEpoch Tryd.func15 rfl rfl (cok_cons k_laws_toCert Tryd.func53 rfl rfl cok_nil)) Tryd.func16 rfl rfl rfl ?_
  intro aargs hs Fs K h
  simp only [c_laws_toLink] at h
  split at h
  case h_2 => exact h.elim
  rename_i n c k r d s m
  obtain ⟨rfl, hc, hk, hs, h⟩ := h
  repeat' (first
    | ((conv => whnf); (first
      | refine brK_dec (fun _ => ?_) (fun _ => ?_)
      | refine brK_ndec (fun _ => ?_) (fun _ => ?_)
      | refine brK_not (fun _ => ?_) (fun _ => ?_)
      | refine brK_in (fun _ => ?_) (fun _ => ?_)
      | refine And.intro (by first | exact rfl | exact ⟨_, rfl, rfl⟩ | exact ⟨rfl, rfl, rfl⟩ | exact of_decide_eq_true rfl | exact trivial | assumption | omega | (show (_ ≤ _ ∧ _ ≤ _); omega) | (simp; omega) | exact ⟨by first | omega | (simp; omega), _, rfl, rfl⟩) ?_
      | refine Both.mk ?_ ?_
      | refine Exists.intro _ (And.intro rfl ?_)
      | refine fun _ => ?_))
    | exact rfl)
  exact h
def c_laws_eqCert : Con := ⟨0, 0, false, fun xs hs _ K => match xs with
  | [.agg [.val (.int .i64 d), .ints s, .val (.int .i64 m)], .agg [.val (.int .i64 d'), .ints s', .val (.int .i64 m')]] =>
    hs = [] ∧ s.length < 2000000 ∧ s'.length < 2000000 ∧ K (B (decide (d = d' ∧ s = s' ∧ m = m'))) [] []
  | _ => False⟩
theorem k_laws_eqCert : Keeps' Tryd.prog 57 c_laws_eqCert := by
  refine keeps_of_vc mix TyT_ok (cok_cons k_laws_eqIntS Tryd.func22 rfl rfl cok_nil) Tryd.func57 rfl rfl rfl ?_
  intro aargs hs Fs K h
  simp only [c_laws_eqCert] at h
  split at h
  case h_2 => exact h.elim
  rename_i d s m d' s' m'
  obtain ⟨rfl, h1, h2, h⟩ := h
  have no : ∀ {b : Bool}, decide (d = d' ∧ s = s' ∧ m = m') = b → K (B b) [] [] := fun e => by rw [← e]; exact h
  repeat' (first
    | ((conv => whnf); (first
      | refine brK_dec (fun _ => ?_) (fun _ => ?_)
      | refine brK_ndec (fun _ => ?_) (fun _ => ?_)
      | refine brK_not (fun _ => ?_) (fun _ => ?_)
      | refine brK_in (fun _ => ?_) (fun _ => ?_)
      | refine And.intro (by first | exact rfl | exact ⟨_, rfl, rfl⟩ | exact ⟨rfl, rfl, rfl⟩ | exact of_decide_eq_true rfl | exact trivial | assumption | omega | (show (_ ≤ _ ∧ _ ≤ _); omega) | (simp; omega) | exact ⟨by first | omega | (simp; omega), _, rfl, rfl⟩) ?_
      | refine Both.mk ?_ ?_
      | refine Exists.intro _ (And.intro rfl ?_)
      | refine fun _ => ?_))
    | exact rfl)
  · rename_i g1; exact no (by simp [g1])
  · rename_i g1 g2; exact no (by simp [g2])
  · rename_i g1 g2 g3; exact no (by simp [g3])
  · rename_i g1 g2 g3; exact no (by simp_all)
def c_laws_eqLink : Con := ⟨0, 0, false, fun xs hs _ K => match xs with
  | [.agg [.val (.int .i64 n), .ints c, .ints k, .val (.int .i64 r), .val (.int .i64 d), .ints s, .val (.int .i64 m)], .agg [.val (.int .i64 n'), .ints c', .ints k', .val (.int .i64 r'), .val (.int .i64 d'), .ints s', .val (.int .i64 m')]] =>
    hs = [] ∧ c.length < 2000000 ∧ k.length < 2000000 ∧ s.length < 2000000 ∧ c'.length < 2000000 ∧ k'.length < 2000000 ∧ s'.length < 2000000 ∧
    K (B (decide ((n = n' ∧ c = c' ∧ k = k' ∧ r = r') ∧ (d = d' ∧ s = s' ∧ m = m')))) [] []
  | _ => False⟩
theorem k_laws_eqLink : Keeps' Tryd.prog 19 c_laws_eqLink := by
  refine keeps_of_vc mix TyT_ok (cok_cons k_laws_eqEpoch Tryd.func18 rfl rfl (cok_cons k_laws_eqCert Tryd.func57 rfl rfl cok_nil)) Tryd.func19 rfl rfl rfl ?_
  intro aargs hs Fs K h
  simp only [c_laws_eqLink] at h
  split at h
  case h_2 => exact h.elim
  rename_i n c k r d s m n' c' k' r' d' s' m'
  obtain ⟨rfl, h1, h2, h3, h4, h5, h6, h⟩ := h
  have no : ∀ {b : Bool}, decide ((n = n' ∧ c = c' ∧ k = k' ∧ r = r') ∧ (d = d' ∧ s = s' ∧ m = m')) = b → K (B b) [] [] := fun e => by rw [← e]; exact h
  repeat' (first
    | ((conv => whnf); (first
      | refine brK_dec (fun _ => ?_) (fun _ => ?_)
      | refine brK_ndec (fun _ => ?_) (fun _ => ?_)
      | refine brK_not (fun _ => ?_) (fun _ => ?_)
      | refine brK_in (fun _ => ?_) (fun _ => ?_)
      | refine And.intro (by first | exact rfl | exact ⟨_, rfl, rfl⟩ | exact ⟨rfl, rfl, rfl⟩ | exact of_decide_eq_true rfl | exact trivial | assumption | omega | (show (_ ≤ _ ∧ _ ≤ _); omega) | (simp; omega) | exact ⟨by first | omega | (simp; omega), _, rfl, rfl⟩) ?_
      | refine Both.mk ?_ ?_
      | refine Exists.intro _ (And.intro rfl ?_)
      | refine fun _ => ?_))
    | exact rfl)
  · rename_i g1; exact no (by simp only [decide_eq_false_iff_not]; exact fun g => g1 g.1)
  · rename_i g1 g2; exact no (by simp only [decide_eq_false_iff_not]; exact fun g => g2 g.2)
  · rename_i g1 g2; exact no (by simp only [decide_eq_true_eq]; exact ⟨g1, g2⟩)
def mkL (k : Int) (n : Nat) : List Int := (List.range n).map fun (i : Nat) => k + (i : Int)
theorem mkL_len (k : Int) (n : Nat) : (mkL k n).length = n := by simp [mkL]
theorem mkL_get {k : Int} {n i : Nat} {x : Int} (h : (mkL k n)[i]? = some x) : x = k + i := by
  simp only [mkL, List.getElem?_map] at h
  obtain ⟨y, h1, rfl⟩ := Option.map_eq_some_iff.1 h
  rw [List.getElem?_range (by have := (List.getElem?_eq_some_iff.1 h1).1; simpa using this)] at h1
  simp at h1
  rw [h1]
theorem mkL_set {k : Int} {l : List Int} {i : Nat} (hi : i < l.length) : (mkL k i ++ l.drop i).set i (k + i) = mkL k (i + 1) ++ l.drop (i + 1) := by
  have e1 := mkL_len k i
  rw [List.set_append, if_neg (by omega), e1, Nat.sub_self, List.drop_eq_getElem_cons hi, List.set_cons_zero]
  simp [mkL, List.range_succ]
def c_laws_markIntS : Con := ⟨0, 2, false, fun xs hs _ K => match xs, hs with
  | [.own 0, .val (.int .i64 k)], [.iarr l] => 0 ≤ k ∧ k ≤ 100000000 ∧ l.length < 2000000 ∧ K (I (k + l.length)) [.iarr (mkL k l.length)] []
  | _, _ => False⟩
theorem k_laws_markIntS : Keeps' Tryd.prog 25 c_laws_markIntS := by
  refine keeps_of_vc mix TyT_ok cok_nil Tryd.func25 rfl rfl rfl ?_
  intro aargs hs Fs K h
  simp only [c_laws_markIntS] at h
  split at h
  case h_2 => exact h.elim
  rename_i k l
  obtain ⟨h0, h1, hl, h⟩ := h
  repeat' (first
    | ((conv => whnf); (first
      | refine brK_dec (fun _ => ?_) (fun _ => ?_)
      | refine brK_ndec (fun _ => ?_) (fun _ => ?_)
      | refine brK_not (fun _ => ?_) (fun _ => ?_)
      | refine brK_in (fun _ => ?_) (fun _ => ?_)
      | refine And.intro (by first | exact rfl | exact ⟨_, rfl, rfl⟩ | exact ⟨rfl, rfl, rfl⟩ | exact of_decide_eq_true rfl | exact trivial | assumption | omega | (show (_ ≤ _ ∧ _ ≤ _); omega) | (simp; omega) | exact ⟨by first | omega | (simp; omega), _, rfl, rfl⟩) ?_
      | refine Both.mk ?_ ?_
      | refine Exists.intro _ (And.intro rfl ?_)
      | refine fun _ => ?_))
    | exact rfl)
  refine loop_in (ι := Nat) (fun i => mkS 19 [(0, .own 0), (1, I (k + i)), (4, I 0), (5, I i)] [.iarr (mkL k i ++ l.drop i)] Fs) (fun i => i ≤ l.length) (fun i => l.length - i) 0 [0] (Nat.zero_le _) ?_ ?_
  · repeat' (first
      | ((conv => whnf); (first
        | refine brK_dec (fun _ => ?_) (fun _ => ?_)
        | refine brK_ndec (fun _ => ?_) (fun _ => ?_)
        | refine brK_not (fun _ => ?_) (fun _ => ?_)
        | refine brK_in (fun _ => ?_) (fun _ => ?_)
        | refine And.intro (by first | exact rfl | exact (by simp [mkL]) | exact ⟨_, rfl, rfl⟩ | exact ⟨rfl, rfl, rfl⟩ | exact of_decide_eq_true rfl | exact trivial | assumption | omega | (show (_ ≤ _ ∧ _ ≤ _); omega) | (simp; omega) | exact ⟨by first | omega | (simp; omega), _, rfl, rfl⟩) ?_
        | refine Both.mk ?_ ?_
        | refine Exists.intro _ (And.intro rfl ?_)
        | refine fun _ => ?_))
      | exact rfl)
  intro i hi
  have hlen : (mkL k i ++ l.drop i).length = l.length := by rw [List.length_append, mkL_len, List.length_drop]; omega
  repeat' (first
    | ((conv => whnf); (first
      | refine brK_dec (fun _ => ?_) (fun _ => ?_)
      | refine brK_ndec (fun _ => ?_) (fun _ => ?_)
      | refine brK_not (fun _ => ?_) (fun _ => ?_)
      | refine brK_in (fun _ => ?_) (fun _ => ?_)
      | refine And.intro (by first | exact rfl | exact ⟨_, rfl, rfl⟩ | exact ⟨rfl, rfl, rfl⟩ | exact of_decide_eq_true rfl | exact trivial | assumption | omega | (show (_ ≤ _ ∧ _ ≤ _); omega) | (simp; omega) | exact ⟨by first | omega | (simp; omega), _, rfl, rfl⟩) ?_
      | refine Both.mk ?_ ?_
      | refine Exists.intro _ (And.intro rfl ?_)
      | refine fun _ => ?_))
    | exact rfl)
  · rename_i hil
    have e := mkL_set (k := k) (l := l) (i := i) (by omega)
    refine ⟨i + 1, [0], by omega, by omega, ?_⟩
    repeat' (first
      | ((conv => whnf); (first
        | refine brK_dec (fun _ => ?_) (fun _ => ?_)
        | refine brK_ndec (fun _ => ?_) (fun _ => ?_)
        | refine brK_not (fun _ => ?_) (fun _ => ?_)
        | refine brK_in (fun _ => ?_) (fun _ => ?_)
        | refine And.intro (by first | exact rfl | exact e.symm | exact ⟨_, rfl, rfl⟩ | exact ⟨rfl, rfl, rfl⟩ | exact of_decide_eq_true rfl | exact trivial | assumption | omega | (show (_ ≤ _ ∧ _ ≤ _); omega) | (simp; omega) | exact ⟨by first | omega | (simp; omega), _, rfl, rfl⟩) ?_
        | refine Both.mk ?_ ?_
        | refine Exists.intro _ (And.intro rfl ?_)
        | refine fun _ => ?_))
      | exact rfl)
  · rename_i hil
    obtain rfl : i = l.length := by omega
    rw [List.drop_length, List.append_nil]
    exact h
def c_laws_heldIntS : Con := ⟨0, 0, false, fun xs hs _ K => match xs with
  | [.ints l, .val (.int .i64 k)] => hs = [] ∧ 0 ≤ k ∧ k ≤ 100000000 ∧ l.length < 2000000 ∧ l = mkL k l.length ∧ K (I (k + l.length)) [] []
  | _ => False⟩
theorem k_laws_heldIntS : Keeps' Tryd.prog 26 c_laws_heldIntS := by
  refine keeps_of_vc mix TyT_ok cok_nil Tryd.func26 rfl rfl rfl ?_
  intro aargs hs Fs K h
  simp only [c_laws_heldIntS] at h
  split at h
  case h_2 => exact h.elim
  rename_i l k
  obtain ⟨rfl, h0, h1, hl, hm, h⟩ := h
  repeat' (first
    | ((conv => whnf); (first
      | refine brK_dec (fun _ => ?_) (fun _ => ?_)
      | refine brK_ndec (fun _ => ?_) (fun _ => ?_)
      | refine brK_not (fun _ => ?_) (fun _ => ?_)
      | refine brK_in (fun _ => ?_) (fun _ => ?_)
      | refine And.intro (by first | exact rfl | exact ⟨_, rfl, rfl⟩ | exact ⟨rfl, rfl, rfl⟩ | exact of_decide_eq_true rfl | exact trivial | assumption | omega | (show (_ ≤ _ ∧ _ ≤ _); omega) | (simp; omega) | exact ⟨by first | omega | (simp; omega), _, rfl, rfl⟩) ?_
      | refine Both.mk ?_ ?_
      | refine Exists.intro _ (And.intro rfl ?_)
      | refine fun _ => ?_))
    | exact rfl)
  refine loop_in (ι := Nat) (fun i => mkS 21 [(0, .ints l), (1, I (k + i)), (4, I 0), (5, I i)] [] Fs) (fun i => i ≤ l.length) (fun i => l.length - i) 0 [] (Nat.zero_le _) ?_ ?_
  · repeat' (first
      | ((conv => whnf); (first
        | refine brK_dec (fun _ => ?_) (fun _ => ?_)
        | refine brK_ndec (fun _ => ?_) (fun _ => ?_)
        | refine brK_not (fun _ => ?_) (fun _ => ?_)
        | refine brK_in (fun _ => ?_) (fun _ => ?_)
        | refine And.intro (by first | exact rfl | exact ⟨_, rfl, rfl⟩ | exact ⟨rfl, rfl, rfl⟩ | exact of_decide_eq_true rfl | exact trivial | assumption | omega | (show (_ ≤ _ ∧ _ ≤ _); omega) | (simp; omega) | exact ⟨by first | omega | (simp; omega), _, rfl, rfl⟩) ?_
        | refine Both.mk ?_ ?_
        | refine Exists.intro _ (And.intro rfl ?_)
        | refine fun _ => ?_))
      | exact rfl)
  intro i hi
  repeat' (first
    | ((conv => whnf); (first
      | refine brK_dec (fun _ => ?_) (fun _ => ?_)
      | refine brK_ndec (fun _ => ?_) (fun _ => ?_)
      | refine brK_not (fun _ => ?_) (fun _ => ?_)
      | refine brK_in (fun _ => ?_) (fun _ => ?_)
      | refine And.intro (by first | exact rfl | exact ⟨_, rfl, rfl⟩ | exact ⟨rfl, rfl, rfl⟩ | exact of_decide_eq_true rfl | exact trivial | assumption | omega | (show (_ ≤ _ ∧ _ ≤ _); omega) | (simp; omega) | exact ⟨by first | omega | (simp; omega), _, rfl, rfl⟩) ?_
      | refine Both.mk ?_ ?_
      | refine Exists.intro _ (And.intro rfl ?_)
      | refine fun _ => ?_))
    | exact rfl)
  · rename_i hil x hx hne
    have hx : l[i]? = some x := hx
    rw [hm] at hx
    exact absurd (mkL_get hx) hne
  · rename_i hil x hx hne
    refine ⟨i + 1, [], by omega, by omega, ?_⟩
    repeat' (first
      | ((conv => whnf); (first
        | refine brK_dec (fun _ => ?_) (fun _ => ?_)
        | refine brK_ndec (fun _ => ?_) (fun _ => ?_)
        | refine brK_not (fun _ => ?_) (fun _ => ?_)
        | refine brK_in (fun _ => ?_) (fun _ => ?_)
        | refine And.intro (by first | exact rfl | exact ⟨_, rfl, rfl⟩ | exact ⟨rfl, rfl, rfl⟩ | exact of_decide_eq_true rfl | exact trivial | assumption | omega | (show (_ ≤ _ ∧ _ ≤ _); omega) | (simp; omega) | exact ⟨by first | omega | (simp; omega), _, rfl, rfl⟩) ?_
        | refine Both.mk ?_ ?_
        | refine Exists.intro _ (And.intro rfl ?_)
        | refine fun _ => ?_))
      | exact rfl)
  · rename_i hil
    obtain rfl : i = l.length := by omega
    exact h
/-- The mark of a slice that is nil. -/
def c_laws_markN : Con := ⟨0, 2, false, fun xs hs _ K => match xs, hs with
  | [.val (.slice none 0 0), .val (.int .i64 k)], [] => 0 ≤ k ∧ k ≤ 100000000 ∧ K (I k) [] []
  | _, _ => False⟩
theorem k_laws_markIntS_n : Keeps' Tryd.prog 25 c_laws_markN := by
  refine keeps_of_vc mix TyT_ok cok_nil Tryd.func25 rfl rfl rfl ?_
  intro aargs hs Fs K h
  simp only [c_laws_markN] at h
  split at h
  case h_2 => exact h.elim
  rename_i k
  obtain ⟨h0, h1, h⟩ := h
  repeat' (first
    | ((conv => whnf); (first
      | refine brK_dec (fun _ => ?_) (fun _ => ?_)
      | refine brK_ndec (fun _ => ?_) (fun _ => ?_)
      | refine brK_not (fun _ => ?_) (fun _ => ?_)
      | refine brK_in (fun _ => ?_) (fun _ => ?_)
      | refine And.intro (by first | exact rfl | exact ⟨_, rfl, rfl⟩ | exact ⟨rfl, rfl, rfl⟩ | exact of_decide_eq_true rfl | exact trivial | assumption | omega | (show (_ ≤ _ ∧ _ ≤ _); omega) | (simp; omega) | exact ⟨by first | omega | (simp; omega), _, rfl, rfl⟩) ?_
      | refine Both.mk ?_ ?_
      | refine Exists.intro _ (And.intro rfl ?_)
      | refine fun _ => ?_))
    | exact rfl)
  refine loop_in (ι := Unit) (fun _ => mkS 19 [(0, .val (.slice none 0 0)), (1, I k), (4, I 0), (5, I 0)] [] Fs) (fun _ => True) (fun _ => 0) () [] trivial ?_ ?_
  · repeat' (first
      | ((conv => whnf); (first
        | refine brK_dec (fun _ => ?_) (fun _ => ?_)
        | refine brK_ndec (fun _ => ?_) (fun _ => ?_)
        | refine brK_not (fun _ => ?_) (fun _ => ?_)
        | refine brK_in (fun _ => ?_) (fun _ => ?_)
        | refine And.intro (by first | exact rfl | exact ⟨_, rfl, rfl⟩ | exact ⟨rfl, rfl, rfl⟩ | exact of_decide_eq_true rfl | exact trivial | assumption | omega | (show (_ ≤ _ ∧ _ ≤ _); omega) | (simp; omega) | exact ⟨by first | omega | (simp; omega), _, rfl, rfl⟩) ?_
        | refine Both.mk ?_ ?_
        | refine Exists.intro _ (And.intro rfl ?_)
        | refine fun _ => ?_))
      | exact rfl)
  intro _ _
  repeat' (first
    | ((conv => whnf); (first
      | refine brK_dec (fun _ => ?_) (fun _ => ?_)
      | refine brK_ndec (fun _ => ?_) (fun _ => ?_)
      | refine brK_not (fun _ => ?_) (fun _ => ?_)
      | refine brK_in (fun _ => ?_) (fun _ => ?_)
      | refine And.intro (by first | exact rfl | exact ⟨_, rfl, rfl⟩ | exact ⟨rfl, rfl, rfl⟩ | exact of_decide_eq_true rfl | exact trivial | assumption | omega | (show (_ ≤ _ ∧ _ ≤ _); omega) | (simp; omega) | exact ⟨by first | omega | (simp; omega), _, rfl, rfl⟩) ?_
      | refine Both.mk ?_ ?_
      | refine Exists.intro _ (And.intro rfl ?_)
      | refine fun _ => ?_))
    | exact rfl)
  exact h
end Go.Proofs.YtbpnfmpbaohklaaDoor
