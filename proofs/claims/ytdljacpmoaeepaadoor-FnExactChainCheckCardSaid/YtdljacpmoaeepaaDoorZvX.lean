/-
The laws' own functions: sizes, copies, comparisons of epochs.
The laws' own marks on slices of numbers.
No conditions.
-/
import Derived.Test.YtdljacpmoaeepaaDoorEvB
namespace Go.Proofs.YtdljacpmoaeepaaDoor
open Go Go.Vc
set_option maxHeartbeats 1000000
set_option maxRecDepth 10000
def szI (l : List Int) (n : Int) : Int := if n - l.length < 0 then -1 else n - l.length
def c_laws_szIntS : Con := ⟨0, 0, false, fun xs hs _ K => match xs with
  | [.ints l, .val (.int .i64 n)] => hs = [] ∧ l.length ≤ 9223372036854775807 ∧ 0 ≤ n ∧ n ≤ 1048576 ∧ K (I (szI l n)) [] []
  | _ => False⟩
theorem k_laws_szIntS : Keeps' Tryd.prog 15 c_laws_szIntS := by
  refine keeps_of_vc mix TyT_ok cok_nil Tryd.func15 rfl rfl rfl ?_
  intro aargs hs Fs K h
  simp only [c_laws_szIntS] at h
  split at h
  case h_2 => exact h.elim
  rename_i l n
  obtain ⟨rfl, hl, h0, h1, h⟩ := h
  have no : ∀ {b : Int}, szI l n = b → K (I b) [] [] := fun e => by rw [← e]; exact h
  repeat' (first|((conv=>whnf); (first|refine brK_dec (fun _=>?_) (fun _=>?_)|refine brK_ndec (fun _=>?_) (fun _=>?_)|refine brK_not (fun _=>?_) (fun _=>?_)|refine brK_in (fun _=>?_) (fun _=>?_)|refine And.intro (by first|exact rfl|exact ⟨_,rfl,rfl⟩|exact ⟨rfl,rfl,rfl⟩|exact of_decide_eq_true rfl|exact trivial|assumption|omega|(show (_ ≤ _ ∧ _ ≤ _); omega)|(simp; omega)|exact ⟨by first|omega|(simp; omega),_,rfl,rfl⟩) ?_|refine Quo.l (And.intro (by first|exact rfl|assumption|omega|(simp; omega)) ?_)|refine Quo.r (And.intro (by omega) ?_)|refine Both.mk ?_ ?_|refine Exists.intro _ (And.intro rfl ?_)|refine fun _=>?_))|exact rfl)
  · rename_i h1; exact no (by simp [szI]; omega)
  · rename_i h1; exact no (by simp [szI]; omega)
theorem szI_le {l : List Int} {n : Int} (h : 0 ≤ szI l n) : (l.length : Int) ≤ n ∧ szI l n = n - l.length := by
  unfold szI at *
  split at h
  · omega
  · rename_i hn; rw [if_neg hn]; omega
theorem szI_neg {l : List Int} {n : Int} (h : szI l n < 0) : szI l n = -1 := by
  unfold szI at *
  split at h
  · rename_i hn; rw [if_pos hn]
  · omega
def szE (c k : List Int) (n : Int) : Int := if szI c n < 0 then -1 else szI k (szI c n)
def c_laws_szEpoch : Con := ⟨0, 0, false, fun xs hs _ K => match xs with
  | [.agg [.val (.int .i64 _), .ints c, .ints k, .val (.int .i64 _)], .val (.int .i64 n)] => hs = [] ∧ c.length ≤ 9223372036854775807 ∧ k.length ≤ 9223372036854775807 ∧ 0 ≤ n ∧ n ≤ 1048576 ∧ K (I (szE c k n)) [] []
  | _ => False⟩
theorem k_laws_szEpoch : Keeps' Tryd.prog 4 c_laws_szEpoch := by
  refine keeps_of_vc mix TyT_ok (cok_cons k_laws_szIntS Tryd.func15 rfl rfl cok_nil) Tryd.func4 rfl rfl rfl ?_
  intro aargs hs Fs K h
  simp only [c_laws_szEpoch] at h
  split at h
  case h_2 => exact h.elim
  rename_i n0 c k r n
  obtain ⟨rfl, hc, hk, h0, h1, h⟩ := h
  have no : ∀ {b : Int}, szE c k n = b → K (I b) [] [] := fun e => by rw [← e]; exact h
  repeat' (first|((conv=>whnf); (first|refine brK_dec (fun _=>?_) (fun _=>?_)|refine brK_ndec (fun _=>?_) (fun _=>?_)|refine brK_not (fun _=>?_) (fun _=>?_)|refine brK_in (fun _=>?_) (fun _=>?_)|refine And.intro (by first|exact rfl|exact ⟨_,rfl,rfl⟩|exact ⟨rfl,rfl,rfl⟩|exact of_decide_eq_true rfl|exact trivial|assumption|omega|(show (_ ≤ _ ∧ _ ≤ _); omega)|(simp; omega)|exact ⟨by first|omega|(simp; omega),_,rfl,rfl⟩) ?_|refine Quo.l (And.intro (by first|exact rfl|assumption|omega|(simp; omega)) ?_)|refine Quo.r (And.intro (by omega) ?_)|refine Both.mk ?_ ?_|refine Exists.intro _ (And.intro rfl ?_)|refine fun _=>?_))|exact rfl)
  · rename_i h2; exact no (by simp [szE, h2])
  · rename_i h2
    have := szI_le (l := c) (n := n) (by omega)
    repeat' (first|((conv=>whnf); (first|refine brK_dec (fun _=>?_) (fun _=>?_)|refine brK_ndec (fun _=>?_) (fun _=>?_)|refine brK_not (fun _=>?_) (fun _=>?_)|refine brK_in (fun _=>?_) (fun _=>?_)|refine And.intro (by first|exact rfl|exact ⟨_,rfl,rfl⟩|exact ⟨rfl,rfl,rfl⟩|exact of_decide_eq_true rfl|exact trivial|assumption|omega|(show (_ ≤ _ ∧ _ ≤ _); omega)|(simp; omega)|exact ⟨by first|omega|(simp; omega),_,rfl,rfl⟩) ?_|refine Quo.l (And.intro (by first|exact rfl|assumption|omega|(simp; omega)) ?_)|refine Quo.r (And.intro (by omega) ?_)|refine Both.mk ?_ ?_|refine Exists.intro _ (And.intro rfl ?_)|refine fun _=>?_))|exact rfl)
    · rename_i h3; exact no (by simp [szE, h2, szI_neg h3])
    · rename_i h3; exact no (by simp [szE, h2])
theorem szE_le {c k : List Int} {n : Int} (hn : n ≤ 1048576) (h : ¬ szE c k n < 0) : c.length ≤ 1048576 ∧ k.length ≤ 1048576 := by
  unfold szE at h
  split at h
  · omega
  · rename_i h1
    have h2 := szI_le (l := c) (n := n) (by omega)
    have h3 := szI_le (l := k) (n := szI c n) (by omega)
    omega
theorem set_fill {l : List Int} {i : Nat} {x : Int} (hx : l[i]? = some x) : (l.take i ++ List.replicate (l.length - i) 0).set i x = l.take (i + 1) ++ List.replicate (l.length - (i + 1)) 0 := by
  obtain ⟨hi, _⟩ := List.getElem?_eq_some_iff.1 hx
  have e : l.length - i = (l.length - (i + 1)) + 1 := by omega
  have e1 : (l.take i).length = i := by simp; omega
  rw [List.set_append, if_neg (by omega), List.take_add_one, hx, e, List.replicate_succ, e1]
  simp
def c_laws_toIntS : Con := ⟨1, 0, false, fun xs hs _ K => match xs with
  | [.ints l] => hs = [] ∧ l.length ≤ 1048576 ∧ K (.own 0) [.iarr l] []
  | _ => False⟩
theorem k_laws_toIntS : Keeps' Tryd.prog 20 c_laws_toIntS := by
  refine keeps_of_vc mix TyT_ok cok_nil Tryd.func20 rfl rfl rfl ?_
  intro aargs hs Fs K h
  simp only [c_laws_toIntS] at h
  split at h
  case h_2 => exact h.elim
  rename_i l
  obtain ⟨rfl, hl, h⟩ := h
  repeat' (first|((conv=>whnf); (first|refine brK_dec (fun _=>?_) (fun _=>?_)|refine brK_ndec (fun _=>?_) (fun _=>?_)|refine brK_not (fun _=>?_) (fun _=>?_)|refine brK_in (fun _=>?_) (fun _=>?_)|refine And.intro (by first|exact rfl|exact ⟨_,rfl,rfl⟩|exact ⟨rfl,rfl,rfl⟩|exact of_decide_eq_true rfl|exact trivial|assumption|omega|(show (_ ≤ _ ∧ _ ≤ _); omega)|(simp; omega)|exact ⟨by first|omega|(simp; omega),_,rfl,rfl⟩) ?_|refine Quo.l (And.intro (by first|exact rfl|assumption|omega|(simp; omega)) ?_)|refine Quo.r (And.intro (by omega) ?_)|refine Both.mk ?_ ?_|refine Exists.intro _ (And.intro rfl ?_)|refine fun _=>?_))|exact rfl)
  refine loop_in (ι := Nat) (fun i => mkS 22 [(0, .ints l), (3, .own 0), (4, I i)] [.iarr (l.take i ++ List.replicate (l.length - i) 0)] Fs) (fun i => i ≤ l.length) (fun i => l.length - i) 0 [0] (Nat.zero_le _) ?_ ?_
  · repeat' (first|((conv=>whnf); (first|refine brK_dec (fun _=>?_) (fun _=>?_)|refine brK_ndec (fun _=>?_) (fun _=>?_)|refine brK_not (fun _=>?_) (fun _=>?_)|refine brK_in (fun _=>?_) (fun _=>?_)|refine And.intro (by first|exact rfl|exact ⟨_,rfl,rfl⟩|exact ⟨rfl,rfl,rfl⟩|exact of_decide_eq_true rfl|exact trivial|assumption|omega|(show (_ ≤ _ ∧ _ ≤ _); omega)|(simp; omega)|exact ⟨by first|omega|(simp; omega),_,rfl,rfl⟩) ?_|refine Quo.l (And.intro (by first|exact rfl|assumption|omega|(simp; omega)) ?_)|refine Quo.r (And.intro (by omega) ?_)|refine Both.mk ?_ ?_|refine Exists.intro _ (And.intro rfl ?_)|refine fun _=>?_))|exact rfl)
  intro i hi
  repeat' (first|((conv=>whnf); (first|refine brK_dec (fun _=>?_) (fun _=>?_)|refine brK_ndec (fun _=>?_) (fun _=>?_)|refine brK_not (fun _=>?_) (fun _=>?_)|refine brK_in (fun _=>?_) (fun _=>?_)|refine And.intro (by first|exact rfl|exact ⟨_,rfl,rfl⟩|exact ⟨rfl,rfl,rfl⟩|exact of_decide_eq_true rfl|exact trivial|assumption|omega|(show (_ ≤ _ ∧ _ ≤ _); omega)|(simp; omega)|exact ⟨by first|omega|(simp; omega),_,rfl,rfl⟩) ?_|refine Quo.l (And.intro (by first|exact rfl|assumption|omega|(simp; omega)) ?_)|refine Quo.r (And.intro (by omega) ?_)|refine Both.mk ?_ ?_|refine Exists.intro _ (And.intro rfl ?_)|refine fun _=>?_))|exact rfl)
  · rename_i hil x hx
    refine ⟨i + 1, [0], by omega, by omega, ?_⟩
    repeat' (first|((conv=>whnf); (first|refine brK_dec (fun _=>?_) (fun _=>?_)|refine brK_ndec (fun _=>?_) (fun _=>?_)|refine brK_not (fun _=>?_) (fun _=>?_)|refine brK_in (fun _=>?_) (fun _=>?_)|refine And.intro (by first|exact rfl|exact (set_fill hx).symm|exact ⟨_,rfl,rfl⟩|exact ⟨rfl,rfl,rfl⟩|exact of_decide_eq_true rfl|exact trivial|assumption|omega|(show (_ ≤ _ ∧ _ ≤ _); omega)|(simp; omega)|exact ⟨by first|omega|(simp; omega),_,rfl,rfl⟩) ?_|refine Quo.l (And.intro (by first|exact rfl|exact (set_fill hx).symm|assumption|omega|(simp; omega)) ?_)|refine Quo.r (And.intro (by omega) ?_)|refine Both.mk ?_ ?_|refine Exists.intro _ (And.intro rfl ?_)|refine fun _=>?_))|exact rfl)
  · rename_i hil
    show K (.own 0) [.iarr _] []
    rw [List.take_of_length_le (by omega), show l.length - i = 0 by omega]
    simpa using h
def c_laws_toEpoch : Con := ⟨2, 0, false, fun xs hs _ K => match xs with
  | [.agg [.val (.int .i64 n), .ints c, .ints k, .val (.int .i64 r)]] => hs = [] ∧ c.length ≤ 1048576 ∧ k.length ≤ 1048576 ∧ K (.agg [I n, .own 0, .own 1, I r]) [.iarr c, .iarr k] []
  | _ => False⟩
theorem k_laws_toEpoch : Keeps' Tryd.prog 7 c_laws_toEpoch := by
  refine keeps_of_vc mix TyT_ok (cok_cons k_laws_toIntS Tryd.func20 rfl rfl cok_nil) Tryd.func7 rfl rfl rfl ?_
  intro aargs hs Fs K h
  simp only [c_laws_toEpoch] at h
  split at h
  case h_2 => exact h.elim
  rename_i n c k r
  obtain ⟨rfl, hc, hk, h⟩ := h
  repeat' (first|((conv=>whnf); (first|refine brK_dec (fun _=>?_) (fun _=>?_)|refine brK_ndec (fun _=>?_) (fun _=>?_)|refine brK_not (fun _=>?_) (fun _=>?_)|refine brK_in (fun _=>?_) (fun _=>?_)|refine And.intro (by first|exact rfl|exact ⟨_,rfl,rfl⟩|exact ⟨rfl,rfl,rfl⟩|exact of_decide_eq_true rfl|exact trivial|assumption|omega|(show (_ ≤ _ ∧ _ ≤ _); omega)|(simp; omega)|exact ⟨by first|omega|(simp; omega),_,rfl,rfl⟩) ?_|refine Quo.l (And.intro (by first|exact rfl|assumption|omega|(simp; omega)) ?_)|refine Quo.r (And.intro (by omega) ?_)|refine Both.mk ?_ ?_|refine Exists.intro _ (And.intro rfl ?_)|refine fun _=>?_))|exact rfl)
  exact h
def c_laws_eqIntS : Con := ⟨0, 0, false, fun xs hs _ K => match xs with
  | [.ints a, .ints b] => hs = [] ∧ a.length < 2000000 ∧ b.length < 2000000 ∧ K (B (decide (a = b))) [] []
  | _ => False⟩
theorem eq_take {a b : List Int} {i : Nat} {x y : Int} (h : a.take i = b.take i) (hx : a[i]? = some x) (hy : b[i]? = some y) (e : x = y) : a.take (i + 1) = b.take (i + 1) := by
  rw [List.take_add_one, List.take_add_one, h, hx, hy, e]
theorem k_laws_eqIntS : Keeps' Tryd.prog 25 c_laws_eqIntS := by
  refine keeps_of_vc mix TyT_ok cok_nil Tryd.func25 rfl rfl rfl ?_
  intro aargs hs Fs K h
  simp only [c_laws_eqIntS] at h
  split at h
  case h_2 => exact h.elim
  rename_i a b
  obtain ⟨rfl, ha, hb, h⟩ := h
  have no : ∀ {c : Bool}, decide (a = b) = c → K (B c) [] [] := fun e => by rw [← e]; exact h
  repeat' (first|((conv=>whnf); (first|refine brK_dec (fun _=>?_) (fun _=>?_)|refine brK_ndec (fun _=>?_) (fun _=>?_)|refine brK_not (fun _=>?_) (fun _=>?_)|refine brK_in (fun _=>?_) (fun _=>?_)|refine And.intro (by first|exact rfl|exact ⟨_,rfl,rfl⟩|exact ⟨rfl,rfl,rfl⟩|exact of_decide_eq_true rfl|exact trivial|assumption|omega|(show (_ ≤ _ ∧ _ ≤ _); omega)|(simp; omega)|exact ⟨by first|omega|(simp; omega),_,rfl,rfl⟩) ?_|refine Quo.l (And.intro (by first|exact rfl|assumption|omega|(simp; omega)) ?_)|refine Quo.r (And.intro (by omega) ?_)|refine Both.mk ?_ ?_|refine Exists.intro _ (And.intro rfl ?_)|refine fun _=>?_))|exact rfl)
  · rename_i h1
    exact no (by
      have : a ≠ b := by rintro rfl; exact h1 rfl
      simp [this])
  rename_i h1
  have hlen : a.length = b.length := by omega
  refine loop_in (ι := Nat) (fun i => mkS 26 [(0, .ints a), (1, .ints b), (4, B false), (5, I i)] [] Fs) (fun i => i ≤ a.length ∧ a.take i = b.take i) (fun i => a.length - i) 0 [] ⟨Nat.zero_le _, by simp⟩ ?_ ?_
  · repeat' (first|((conv=>whnf); (first|refine brK_dec (fun _=>?_) (fun _=>?_)|refine brK_ndec (fun _=>?_) (fun _=>?_)|refine brK_not (fun _=>?_) (fun _=>?_)|refine brK_in (fun _=>?_) (fun _=>?_)|refine And.intro (by first|exact rfl|exact ⟨_,rfl,rfl⟩|exact ⟨rfl,rfl,rfl⟩|exact of_decide_eq_true rfl|exact trivial|assumption|omega|(show (_ ≤ _ ∧ _ ≤ _); omega)|(simp; omega)|exact ⟨by first|omega|(simp; omega),_,rfl,rfl⟩) ?_|refine Quo.l (And.intro (by first|exact rfl|assumption|omega|(simp; omega)) ?_)|refine Quo.r (And.intro (by omega) ?_)|refine Both.mk ?_ ?_|refine Exists.intro _ (And.intro rfl ?_)|refine fun _=>?_))|exact rfl)
  intro i ⟨hi, hall⟩
  repeat' (first|((conv=>whnf); (first|refine draw_plan (id := 6) [] [] (.take 0 (.take 1 (.take 2 (.take 3 (.take 4 (.take 5 (.take 6 (.take 7 (.take 8 .done))))))))) (by kernel_rfl) (by kernel_rfl) ?_|refine brK_dec (fun _=>?_) (fun _=>?_)|refine brK_ndec (fun _=>?_) (fun _=>?_)|refine brK_not (fun _=>?_) (fun _=>?_)|refine brK_in (fun _=>?_) (fun _=>?_)|refine And.intro (by first|exact rfl|exact ⟨_,rfl,rfl⟩|exact ⟨rfl,rfl,rfl⟩|exact of_decide_eq_true rfl|exact trivial|assumption|omega|(show (_ ≤ _ ∧ _ ≤ _); omega)|(simp; omega)|exact ⟨by first|omega|(simp; omega),_,rfl,rfl⟩) ?_|refine Quo.l (And.intro (by first|exact rfl|assumption|omega|(simp; omega)) ?_)|refine Quo.r (And.intro (by omega) ?_)|refine Both.mk ?_ ?_|refine Exists.intro _ (And.intro rfl ?_)|refine fun _=>?_))|exact rfl)
  · rename_i hil x hx y hy e
    refine no ?_
    have : a ≠ b := by
      rintro rfl
      have hx' : a[i]? = some x := hx
      have hy' : a[i]? = some y := hy
      rw [hx'] at hy'
      exact e (Option.some.inj hy')
    simp [this]
  · rename_i hil x hx y hy e
    refine ⟨i + 1, [], ⟨by omega, eq_take hall hx hy (by simpa using e)⟩, by omega, ?_⟩
    repeat' (first|((conv=>whnf); (first|refine brK_dec (fun _=>?_) (fun _=>?_)|refine brK_ndec (fun _=>?_) (fun _=>?_)|refine brK_not (fun _=>?_) (fun _=>?_)|refine brK_in (fun _=>?_) (fun _=>?_)|refine And.intro (by first|exact rfl|exact ⟨_,rfl,rfl⟩|exact ⟨rfl,rfl,rfl⟩|exact of_decide_eq_true rfl|exact trivial|assumption|omega|(show (_ ≤ _ ∧ _ ≤ _); omega)|(simp; omega)|exact ⟨by first|omega|(simp; omega),_,rfl,rfl⟩) ?_|refine Quo.l (And.intro (by first|exact rfl|assumption|omega|(simp; omega)) ?_)|refine Quo.r (And.intro (by omega) ?_)|refine Both.mk ?_ ?_|refine Exists.intro _ (And.intro rfl ?_)|refine fun _=>?_))|exact rfl)
  · rename_i hil
    rw [List.take_of_length_le (by omega), List.take_of_length_le (by omega)] at hall
    exact no (by simp [hall])
def c_laws_eqEpoch : Con := ⟨0, 0, false, fun xs hs _ K => match xs with
  | [.agg [.val (.int .i64 n), .ints c, .ints k, .val (.int .i64 r)], .agg [.val (.int .i64 n'), .ints c', .ints k', .val (.int .i64 r')]] =>
    hs = [] ∧ c.length < 2000000 ∧ k.length < 2000000 ∧ c'.length < 2000000 ∧ k'.length < 2000000 ∧ K (B (decide (n = n' ∧ c = c' ∧ k = k' ∧ r = r'))) [] []
  | _ => False⟩
theorem k_laws_eqEpoch : Keeps' Tryd.prog 10 c_laws_eqEpoch := by
  refine keeps_of_vc mix TyT_ok (cok_cons k_laws_eqIntS Tryd.func25 rfl rfl cok_nil) Tryd.func10 rfl rfl rfl ?_
  intro aargs hs Fs K h
  simp only [c_laws_eqEpoch] at h
  split at h
  case h_2 => exact h.elim
  rename_i n c k r n' c' k' r'
  obtain ⟨rfl, h1, h2, h3, h4, h⟩ := h
  have no : ∀ {d : Bool}, decide (n = n' ∧ c = c' ∧ k = k' ∧ r = r') = d → K (B d) [] [] := fun e => by rw [← e]; exact h
  repeat' (first|((conv=>whnf); (first|refine brK_dec (fun _=>?_) (fun _=>?_)|refine brK_ndec (fun _=>?_) (fun _=>?_)|refine brK_not (fun _=>?_) (fun _=>?_)|refine brK_in (fun _=>?_) (fun _=>?_)|refine And.intro (by first|exact rfl|exact ⟨_,rfl,rfl⟩|exact ⟨rfl,rfl,rfl⟩|exact of_decide_eq_true rfl|exact trivial|assumption|omega|(show (_ ≤ _ ∧ _ ≤ _); omega)|(simp; omega)|exact ⟨by first|omega|(simp; omega),_,rfl,rfl⟩) ?_|refine Quo.l (And.intro (by first|exact rfl|assumption|omega|(simp; omega)) ?_)|refine Quo.r (And.intro (by omega) ?_)|refine Both.mk ?_ ?_|refine Exists.intro _ (And.intro rfl ?_)|refine fun _=>?_))|exact rfl)
  · rename_i g1; exact no (by simp [g1])
  · rename_i g1 g2; exact no (by simp [g2])
  · rename_i g1 g2 g3; exact no (by simp [g3])
  · rename_i g1 g2 g3 g4; exact no (by simp [g4])
  · rename_i g1 g2 g3 g4; exact no (by simp_all)
end Go.Proofs.YtdljacpmoaeepaaDoor
namespace Go.Proofs.YtdljacpmoaeepaaDoor
open Go Go.Vc
set_option maxHeartbeats 2000000
set_option maxRecDepth 10000
def mkL (k : Int) (n : Nat) : List Int := (List.range n).map fun (i : Nat) => k + (i : Int)
theorem mkL_len (k : Int) (n : Nat) : (mkL k n).length = n := by simp [mkL]
theorem mkL_get {k : Int} {n i : Nat} {x : Int} (h : (mkL k n)[i]? = some x) : x = k + i := by
  simp only [mkL, List.getElem?_map] at h
  obtain ⟨y, h1, rfl⟩ := Option.map_eq_some_iff.1 h
  rw [List.getElem?_range (by have := (List.getElem?_eq_some_iff.1 h1).1; simpa using this)] at h1
  simp at h1
  rw [h1]
theorem mkL_set {k : Int} {l : List Int} {i : Nat} (hi : i < l.length) : (mkL k i ++ l.drop i).set i (k + i) = mkL k (i + 1) ++ l.drop (i + 1) := by
  have e1 := mkL_len k i
  rw [List.set_append, if_neg (by omega), e1, Nat.sub_self, List.drop_eq_getElem_cons hi, List.set_cons_zero]
  simp [mkL, List.range_succ]
def c_laws_markIntS : Con := ⟨0, 3, false, fun xs hs _ K => match xs, hs with
  | [.own 0, .val (.int .i64 k)], [.iarr l] => 0 ≤ k ∧ k ≤ 4000000000000000000 ∧ l.length < 2000000 ∧ K (I (k + l.length)) [.iarr (mkL k l.length)] []
  | _, _ => False⟩
theorem k_laws_markIntS : Keeps' Tryd.prog 27 c_laws_markIntS := by
  refine keeps_of_vc mix TyT_ok (cok_stay cok_nil) Tryd.func27 rfl rfl rfl ?_
  intro aargs hs Fs K h
  simp only [c_laws_markIntS] at h
  split at h
  case h_2 => exact h.elim
  rename_i k l
  obtain ⟨h0, h1, hl, h⟩ := h
  repeat' (first|((conv=>whnf); (first|refine brK_dec (fun _=>?_) (fun _=>?_)|refine brK_ndec (fun _=>?_) (fun _=>?_)|refine brK_not (fun _=>?_) (fun _=>?_)|refine brK_in (fun _=>?_) (fun _=>?_)|refine And.intro (by first|exact rfl|exact ⟨_,rfl,rfl⟩|exact ⟨rfl,rfl,rfl⟩|exact of_decide_eq_true rfl|exact trivial|assumption|omega|(show (_ ≤ _ ∧ _ ≤ _); omega)|(simp; omega)|exact ⟨by first|omega|(simp; omega),_,rfl,rfl⟩) ?_|refine Quo.l (And.intro (by first|exact rfl|assumption|omega|(simp; omega)) ?_)|refine Quo.r (And.intro (by omega) ?_)|refine Both.mk ?_ ?_|refine Exists.intro _ (And.intro rfl ?_)|refine fun _=>?_))|exact rfl)
  refine loop_in (ι := Nat) (fun i => mkS 19 [(0, .own 0), (1, I (k + i)), (4, I 0), (5, I i)] [.iarr (mkL k i ++ l.drop i)] Fs) (fun i => i ≤ l.length) (fun i => l.length - i) 0 [0] (Nat.zero_le _) ?_ ?_
  · repeat' (first|((conv=>whnf); (first|refine brK_dec (fun _=>?_) (fun _=>?_)|refine brK_ndec (fun _=>?_) (fun _=>?_)|refine brK_not (fun _=>?_) (fun _=>?_)|refine brK_in (fun _=>?_) (fun _=>?_)|refine And.intro (by first|exact rfl|exact (by simp)|exact ⟨_,rfl,rfl⟩|exact ⟨rfl,rfl,rfl⟩|exact of_decide_eq_true rfl|exact trivial|assumption|omega|(show (_ ≤ _ ∧ _ ≤ _); omega)|(simp; omega)|exact ⟨by first|omega|(simp; omega),_,rfl,rfl⟩) ?_|refine Quo.l (And.intro (by first|exact rfl|exact (by simp)|assumption|omega|(simp; omega)) ?_)|refine Quo.r (And.intro (by omega) ?_)|refine Both.mk ?_ ?_|refine Exists.intro _ (And.intro rfl ?_)|refine fun _=>?_))|exact rfl)
  intro i hi
  have hlen : (mkL k i ++ l.drop i).length = l.length := by rw [List.length_append, mkL_len, List.length_drop]; omega
  repeat' (first|((conv=>whnf); (first|refine brK_dec (fun _=>?_) (fun _=>?_)|refine brK_ndec (fun _=>?_) (fun _=>?_)|refine brK_not (fun _=>?_) (fun _=>?_)|refine brK_in (fun _=>?_) (fun _=>?_)|refine And.intro (by first|exact rfl|exact ⟨_,rfl,rfl⟩|exact ⟨rfl,rfl,rfl⟩|exact of_decide_eq_true rfl|exact trivial|assumption|omega|(show (_ ≤ _ ∧ _ ≤ _); omega)|(simp; omega)|exact ⟨by first|omega|(simp; omega),_,rfl,rfl⟩) ?_|refine Quo.l (And.intro (by first|exact rfl|assumption|omega|(simp; omega)) ?_)|refine Quo.r (And.intro (by omega) ?_)|refine Both.mk ?_ ?_|refine Exists.intro _ (And.intro rfl ?_)|refine fun _=>?_))|exact rfl)
  · rename_i hil
    have e := mkL_set (k := k) (l := l) (i := i) (by omega)
    refine ⟨i + 1, [0], by omega, by omega, ?_⟩
    repeat' (first|((conv=>whnf); (first|refine brK_dec (fun _=>?_) (fun _=>?_)|refine brK_ndec (fun _=>?_) (fun _=>?_)|refine brK_not (fun _=>?_) (fun _=>?_)|refine brK_in (fun _=>?_) (fun _=>?_)|refine And.intro (by first|exact rfl|exact e.symm|exact ⟨_,rfl,rfl⟩|exact ⟨rfl,rfl,rfl⟩|exact of_decide_eq_true rfl|exact trivial|assumption|omega|(show (_ ≤ _ ∧ _ ≤ _); omega)|(simp; omega)|exact ⟨by first|omega|(simp; omega),_,rfl,rfl⟩) ?_|refine Quo.l (And.intro (by first|exact rfl|exact e.symm|assumption|omega|(simp; omega)) ?_)|refine Quo.r (And.intro (by omega) ?_)|refine Both.mk ?_ ?_|refine Exists.intro _ (And.intro rfl ?_)|refine fun _=>?_))|exact rfl)
  · rename_i hil
    obtain rfl : i = l.length := by omega
    rw [List.drop_length, List.append_nil]
    exact h
def c_laws_heldIntS : Con := ⟨0, 0, false, fun xs hs _ K => match xs with
  | [.ints l, .val (.int .i64 k)] => hs = [] ∧ 0 ≤ k ∧ k ≤ 100000000 ∧ l.length < 2000000 ∧ l = mkL k l.length ∧ K (I (k + l.length)) [] []
  | _ => False⟩
theorem k_laws_heldIntS : Keeps' Tryd.prog 28 c_laws_heldIntS := by
  refine keeps_of_vc mix TyT_ok cok_nil Tryd.func28 rfl rfl rfl ?_
  intro aargs hs Fs K h
  simp only [c_laws_heldIntS] at h
  split at h
  case h_2 => exact h.elim
  rename_i l k
  obtain ⟨rfl, h0, h1, hl, hm, h⟩ := h
  repeat' (first|((conv=>whnf); (first|refine brK_dec (fun _=>?_) (fun _=>?_)|refine brK_ndec (fun _=>?_) (fun _=>?_)|refine brK_not (fun _=>?_) (fun _=>?_)|refine brK_in (fun _=>?_) (fun _=>?_)|refine And.intro (by first|exact rfl|exact ⟨_,rfl,rfl⟩|exact ⟨rfl,rfl,rfl⟩|exact of_decide_eq_true rfl|exact trivial|assumption|omega|(show (_ ≤ _ ∧ _ ≤ _); omega)|(simp; omega)|exact ⟨by first|omega|(simp; omega),_,rfl,rfl⟩) ?_|refine Quo.l (And.intro (by first|exact rfl|assumption|omega|(simp; omega)) ?_)|refine Quo.r (And.intro (by omega) ?_)|refine Both.mk ?_ ?_|refine Exists.intro _ (And.intro rfl ?_)|refine fun _=>?_))|exact rfl)
  refine loop_in (ι := Nat) (fun i => mkS 21 [(0, .ints l), (1, I (k + i)), (4, I 0), (5, I i)] [] Fs) (fun i => i ≤ l.length) (fun i => l.length - i) 0 [] (Nat.zero_le _) ?_ ?_
  · repeat' (first|((conv=>whnf); (first|refine brK_dec (fun _=>?_) (fun _=>?_)|refine brK_ndec (fun _=>?_) (fun _=>?_)|refine brK_not (fun _=>?_) (fun _=>?_)|refine brK_in (fun _=>?_) (fun _=>?_)|refine And.intro (by first|exact rfl|exact ⟨_,rfl,rfl⟩|exact ⟨rfl,rfl,rfl⟩|exact of_decide_eq_true rfl|exact trivial|assumption|omega|(show (_ ≤ _ ∧ _ ≤ _); omega)|(simp; omega)|exact ⟨by first|omega|(simp; omega),_,rfl,rfl⟩) ?_|refine Quo.l (And.intro (by first|exact rfl|assumption|omega|(simp; omega)) ?_)|refine Quo.r (And.intro (by omega) ?_)|refine Both.mk ?_ ?_|refine Exists.intro _ (And.intro rfl ?_)|refine fun _=>?_))|exact rfl)
  intro i hi
  repeat' (first|((conv=>whnf); (first|refine brK_dec (fun _=>?_) (fun _=>?_)|refine brK_ndec (fun _=>?_) (fun _=>?_)|refine brK_not (fun _=>?_) (fun _=>?_)|refine brK_in (fun _=>?_) (fun _=>?_)|refine And.intro (by first|exact rfl|exact ⟨_,rfl,rfl⟩|exact ⟨rfl,rfl,rfl⟩|exact of_decide_eq_true rfl|exact trivial|assumption|omega|(show (_ ≤ _ ∧ _ ≤ _); omega)|(simp; omega)|exact ⟨by first|omega|(simp; omega),_,rfl,rfl⟩) ?_|refine Quo.l (And.intro (by first|exact rfl|assumption|omega|(simp; omega)) ?_)|refine Quo.r (And.intro (by omega) ?_)|refine Both.mk ?_ ?_|refine Exists.intro _ (And.intro rfl ?_)|refine fun _=>?_))|exact rfl)
  · rename_i hil x hx hne
    have hx : l[i]? = some x := hx
    rw [hm] at hx
    exact absurd (mkL_get hx) hne
  · rename_i hil x hx hne
    refine ⟨i + 1, [], by omega, by omega, ?_⟩
    repeat' (first|((conv=>whnf); (first|refine brK_dec (fun _=>?_) (fun _=>?_)|refine brK_ndec (fun _=>?_) (fun _=>?_)|refine brK_not (fun _=>?_) (fun _=>?_)|refine brK_in (fun _=>?_) (fun _=>?_)|refine And.intro (by first|exact rfl|exact ⟨_,rfl,rfl⟩|exact ⟨rfl,rfl,rfl⟩|exact of_decide_eq_true rfl|exact trivial|assumption|omega|(show (_ ≤ _ ∧ _ ≤ _); omega)|(simp; omega)|exact ⟨by first|omega|(simp; omega),_,rfl,rfl⟩) ?_|refine Quo.l (And.intro (by first|exact rfl|assumption|omega|(simp; omega)) ?_)|refine Quo.r (And.intro (by omega) ?_)|refine Both.mk ?_ ?_|refine Exists.intro _ (And.intro rfl ?_)|refine fun _=>?_))|exact rfl)
  · rename_i hil
    obtain rfl : i = l.length := by omega
    exact h
/-- The mark of a slice that is nil. -/
def c_laws_markN : Con := ⟨0, 3, false, fun xs hs _ K => match xs, hs with
  | [.val (.slice none 0 0), .val (.int .i64 k)], [] => 0 ≤ k ∧ k ≤ 100000000 ∧ K (I k) [] []
  | _, _ => False⟩
theorem k_laws_markIntS_n : Keeps' Tryd.prog 27 c_laws_markN := by
  refine keeps_of_vc mix TyT_ok (cok_stay cok_nil) Tryd.func27 rfl rfl rfl ?_
  intro aargs hs Fs K h
  simp only [c_laws_markN] at h
  split at h
  case h_2 => exact h.elim
  rename_i k
  obtain ⟨h0, h1, h⟩ := h
  repeat' (first|((conv=>whnf); (first|refine brK_dec (fun _=>?_) (fun _=>?_)|refine brK_ndec (fun _=>?_) (fun _=>?_)|refine brK_not (fun _=>?_) (fun _=>?_)|refine brK_in (fun _=>?_) (fun _=>?_)|refine And.intro (by first|exact rfl|exact ⟨_,rfl,rfl⟩|exact ⟨rfl,rfl,rfl⟩|exact of_decide_eq_true rfl|exact trivial|assumption|omega|(show (_ ≤ _ ∧ _ ≤ _); omega)|(simp; omega)|exact ⟨by first|omega|(simp; omega),_,rfl,rfl⟩) ?_|refine Quo.l (And.intro (by first|exact rfl|assumption|omega|(simp; omega)) ?_)|refine Quo.r (And.intro (by omega) ?_)|refine Both.mk ?_ ?_|refine Exists.intro _ (And.intro rfl ?_)|refine fun _=>?_))|exact rfl)
  refine loop_in (ι := Unit) (fun _ => mkS 19 [(0, .val (.slice none 0 0)), (1, I k), (4, I 0), (5, I 0)] [] Fs) (fun _ => True) (fun _ => 0) () [] trivial ?_ ?_
  · repeat' (first|((conv=>whnf); (first|refine brK_dec (fun _=>?_) (fun _=>?_)|refine brK_ndec (fun _=>?_) (fun _=>?_)|refine brK_not (fun _=>?_) (fun _=>?_)|refine brK_in (fun _=>?_) (fun _=>?_)|refine And.intro (by first|exact rfl|exact ⟨_,rfl,rfl⟩|exact ⟨rfl,rfl,rfl⟩|exact of_decide_eq_true rfl|exact trivial|assumption|omega|(show (_ ≤ _ ∧ _ ≤ _); omega)|(simp; omega)|exact ⟨by first|omega|(simp; omega),_,rfl,rfl⟩) ?_|refine Quo.l (And.intro (by first|exact rfl|assumption|omega|(simp; omega)) ?_)|refine Quo.r (And.intro (by omega) ?_)|refine Both.mk ?_ ?_|refine Exists.intro _ (And.intro rfl ?_)|refine fun _=>?_))|exact rfl)
  intro _ _
  repeat' (first|((conv=>whnf); (first|refine brK_dec (fun _=>?_) (fun _=>?_)|refine brK_ndec (fun _=>?_) (fun _=>?_)|refine brK_not (fun _=>?_) (fun _=>?_)|refine brK_in (fun _=>?_) (fun _=>?_)|refine And.intro (by first|exact rfl|exact ⟨_,rfl,rfl⟩|exact ⟨rfl,rfl,rfl⟩|exact of_decide_eq_true rfl|exact trivial|assumption|omega|(show (_ ≤ _ ∧ _ ≤ _); omega)|(simp; omega)|exact ⟨by first|omega|(simp; omega),_,rfl,rfl⟩) ?_|refine Quo.l (And.intro (by first|exact rfl|assumption|omega|(simp; omega)) ?_)|refine Quo.r (And.intro (by omega) ?_)|refine Both.mk ?_ ?_|refine Exists.intro _ (And.intro rfl ?_)|refine fun _=>?_))|exact rfl)
  exact h
end Go.Proofs.YtdljacpmoaeepaaDoor
