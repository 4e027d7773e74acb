/-
The laws' own functions on slots: compared, marked, marks found again.
No conditions.
-/
import Derived.Test.YtkabnbjlglippaaGreatDoorOlA
namespace Go.Proofs.YtkabnbjlglippaaGreatDoor
open Go Go.Vc
set_option maxHeartbeats 4000000
set_option maxRecDepth 10000
def c_laws_eqSlot : Con := ⟨0, 0, false, fun xs hs _ K => match xs with
  | [.agg [.val (.int .i64 r), .val (.int .i64 a)], .agg [.val (.int .i64 r'), .val (.int .i64 a')]] => hs = [] ∧ r = r' ∧ a = a' ∧ K (B true) [] []
  | _ => False⟩
theorem k_laws_eqSlot : Keeps' Tryz.prog 56 c_laws_eqSlot := by
  refine keeps_of_vc mix TyT_ok cok_nil Tryz.func56 rfl rfl rfl ?_
  intro aargs hs Fs K h
  simp only [c_laws_eqSlot] at h
  split at h
  case h_2 => exact h.elim
  rename_i r a r' a'
  obtain ⟨rfl, rfl, rfl, h⟩ := h
  repeat' (first|((conv=>whnf); (first|refine brK_dec (fun _=>?_) (fun _=>?_)|refine brK_ndec (fun _=>?_) (fun _=>?_)|refine brK_not (fun _=>?_) (fun _=>?_)|refine brK_in (fun _=>?_) (fun _=>?_)|refine And.intro (by first|exact rfl|exact ⟨_,rfl,rfl⟩|exact ⟨rfl,rfl,rfl⟩|exact of_decide_eq_true rfl|exact trivial|assumption|omega|(show (_ ≤ _ ∧ _ ≤ _); omega)|(simp; omega)|exact ⟨by first|omega|(simp; omega),_,rfl,rfl⟩) ?_|refine Quo.l (And.intro (by first|exact rfl|assumption|omega|(simp; omega)) ?_)|refine Quo.r (And.intro (by omega) ?_)|refine Both.mk ?_ ?_|refine Exists.intro _ (And.intro rfl ?_)|refine fun _=>?_))|exact rfl)
  all_goals first
    | exact h
    | (rename_i e; exact absurd rfl e)
def c_laws_eqSlotS : Con := ⟨0, 0, false, fun xs hs _ K => match xs with
  | [.sl 2 a, .sl 2 b] => hs = [] ∧ a = b ∧ ∃ S : List (Int × Int), a = S.map pR ∧ S.length < 2000000 ∧ K (B true) [] []
  | _ => False⟩
theorem k_laws_eqSlotS : Keeps' Tryz.prog 27 c_laws_eqSlotS := by
  refine keeps_of_vc mix TyT_ok (cok_cons k_laws_eqSlot Tryz.func56 rfl rfl cok_nil) Tryz.func27 rfl rfl rfl ?_
  intro aargs hs Fs K h
  simp only [c_laws_eqSlotS] at h
  split at h
  case h_2 => exact h.elim
  rename_i a b
  obtain ⟨rfl, rfl, S, rfl, hl, h⟩ := h
  have hlen : (S.map pR).length = S.length := by simp
  repeat' (first|((conv=>whnf); (first|refine draw_plan (id := 6) [] [] (.take 0 (.take 1 (.take 2 (.take 3 (.take 4 (.take 5 (.take 6 (.take 7 (.run 8 (.take 9 .done)))))))))) (by kernel_rfl) (by kernel_rfl) ?_|refine brK_dec (fun _=>?_) (fun _=>?_)|refine brK_ndec (fun _=>?_) (fun _=>?_)|refine brK_not (fun _=>?_) (fun _=>?_)|refine brK_in (fun _=>?_) (fun _=>?_)|refine And.intro (by first|exact rfl|exact ⟨_,rfl,rfl⟩|exact ⟨rfl,rfl,rfl⟩|exact of_decide_eq_true rfl|exact trivial|assumption|omega|(show (_ ≤ _ ∧ _ ≤ _); omega)|(simp; omega)|exact ⟨by first|omega|(simp; omega),_,rfl,rfl⟩) ?_|refine Quo.l (And.intro (by first|exact rfl|assumption|omega|(simp; omega)) ?_)|refine Quo.r (And.intro (by omega) ?_)|refine Both.mk ?_ ?_|refine Exists.intro _ (And.intro rfl ?_)|refine fun _=>?_))|exact rfl)
  · rename_i q
    exact absurd rfl q
  refine loop_in (ι := Nat) (fun i => mkS 27 [(0, .sl 2 (S.map pR)), (1, .sl 2 (S.map pR)), (4, B false), (5, I i)] [] Fs) (fun i => i ≤ S.length) (fun i => S.length - i) 0 [] (Nat.zero_le _) ?_ ?_
  · repeat' (first|((conv=>whnf); (first|refine brK_dec (fun _=>?_) (fun _=>?_)|refine brK_ndec (fun _=>?_) (fun _=>?_)|refine brK_not (fun _=>?_) (fun _=>?_)|refine brK_in (fun _=>?_) (fun _=>?_)|refine And.intro (by first|exact rfl|exact ⟨_,rfl,rfl⟩|exact ⟨rfl,rfl,rfl⟩|exact of_decide_eq_true rfl|exact trivial|assumption|omega|(show (_ ≤ _ ∧ _ ≤ _); omega)|(simp; omega)|exact ⟨by first|omega|(simp; omega),_,rfl,rfl⟩) ?_|refine Quo.l (And.intro (by first|exact rfl|assumption|omega|(simp; omega)) ?_)|refine Quo.r (And.intro (by omega) ?_)|refine Both.mk ?_ ?_|refine Exists.intro _ (And.intro rfl ?_)|refine fun _=>?_))|exact rfl)
  intro i hi
  rcases Nat.lt_or_ge i S.length with hil | hil
  · obtain ⟨x, hx⟩ : ∃ x, S[((i : Nat) : Int).toNat]? = some x := ⟨_, List.getElem?_eq_getElem hil⟩
    repeat' (first|((conv=>whnf); (first|refine draw_plan (id := 6) [] [] (.take 0 (.take 1 (.take 2 (.take 3 (.take 4 (.take 5 (.take 6 (.take 7 (.run 8 (.take 9 .done)))))))))) (by kernel_rfl) (by kernel_rfl) ?_|refine brK_dec (fun _=>?_) (fun _=>?_)|refine brK_ndec (fun _=>?_) (fun _=>?_)|refine brK_not (fun _=>?_) (fun _=>?_)|refine brK_in (fun _=>?_) (fun _=>?_)|refine And.intro (by first|exact rfl|exact ⟨_,rfl,rfl⟩|exact ⟨rfl,rfl,rfl⟩|exact of_decide_eq_true rfl|exact trivial|assumption|omega|(show (_ ≤ _ ∧ _ ≤ _); omega)|(simp; omega)|exact ⟨by first|omega|(simp; omega),_,rfl,rfl⟩) ?_|refine Quo.l (And.intro (by first|exact rfl|assumption|omega|(simp; omega)) ?_)|refine Quo.r (And.intro (by omega) ?_)|refine Both.mk ?_ ?_|refine Exists.intro _ (And.intro rfl ?_)|refine prow_use (by assumption) ?_|refine fun _=>?_))|exact rfl)
    · refine ⟨i + 1, [], by omega, by omega, ?_⟩
      repeat' (first|((conv=>whnf); (first|refine brK_dec (fun _=>?_) (fun _=>?_)|refine brK_ndec (fun _=>?_) (fun _=>?_)|refine brK_not (fun _=>?_) (fun _=>?_)|refine brK_in (fun _=>?_) (fun _=>?_)|refine And.intro (by first|exact rfl|exact ⟨_,rfl,rfl⟩|exact ⟨rfl,rfl,rfl⟩|exact of_decide_eq_true rfl|exact trivial|assumption|omega|(show (_ ≤ _ ∧ _ ≤ _); omega)|(simp; omega)|exact ⟨by first|omega|(simp; omega),_,rfl,rfl⟩) ?_|refine Quo.l (And.intro (by first|exact rfl|assumption|omega|(simp; omega)) ?_)|refine Quo.r (And.intro (by omega) ?_)|refine Both.mk ?_ ?_|refine Exists.intro _ (And.intro rfl ?_)|refine prow_use (by assumption) ?_|refine fun _=>?_))|exact rfl)
    · omega
  · repeat' (first|((conv=>whnf); (first|refine draw_plan (id := 6) [] [] (.take 0 (.take 1 (.take 2 (.take 3 (.take 4 (.take 5 (.take 6 (.take 7 (.run 8 (.take 9 .done)))))))))) (by kernel_rfl) (by kernel_rfl) ?_|refine brK_dec (fun _=>?_) (fun _=>?_)|refine brK_ndec (fun _=>?_) (fun _=>?_)|refine brK_not (fun _=>?_) (fun _=>?_)|refine brK_in (fun _=>?_) (fun _=>?_)|refine And.intro (by first|exact rfl|exact ⟨_,rfl,rfl⟩|exact ⟨rfl,rfl,rfl⟩|exact of_decide_eq_true rfl|exact trivial|assumption|omega|(show (_ ≤ _ ∧ _ ≤ _); omega)|(simp; omega)|exact ⟨by first|omega|(simp; omega),_,rfl,rfl⟩) ?_|refine Quo.l (And.intro (by first|exact rfl|assumption|omega|(simp; omega)) ?_)|refine Quo.r (And.intro (by omega) ?_)|refine Both.mk ?_ ?_|refine Exists.intro _ (And.intro rfl ?_)|refine fun _=>?_))|exact rfl)
    · omega
    exact h
def mkP (k : Int) (n : Nat) : List (Int × Int) := (List.range n).map fun (i : Nat) => (k + 2 * (i : Int), k + 2 * (i : Int) + 1)
theorem mkP_len (k : Int) (n : Nat) : (mkP k n).length = n := by simp [mkP]
theorem mkP_get {k : Int} {n i : Nat} {x : Int × Int} (h : (mkP k n)[i]? = some x) : x = (k + 2 * i, k + 2 * i + 1) := by
  simp only [mkP, List.getElem?_map] at h
  obtain ⟨y, h1, rfl⟩ := Option.map_eq_some_iff.1 h
  rw [List.getElem?_range (by have := (List.getElem?_eq_some_iff.1 h1).1; simpa using this)] at h1
  simp at h1
  rw [h1]
/-- The rows while they are marked. -/
def mkRows (k : Int) (S : List (Int × Int)) (i : Nat) : List (List AV) := (mkP k i ++ S.drop i).map pR
theorem mkRows_len {k : Int} {S : List (Int × Int)} {i : Nat} (hi : i ≤ S.length) : (mkRows k S i).length = S.length := by
  simp [mkRows, mkP_len]
  omega
theorem mkRows_zero (k : Int) (S : List (Int × Int)) : mkRows k S 0 = S.map pR := by simp [mkRows, mkP]
theorem mkRows_all {k : Int} {S : List (Int × Int)} : mkRows k S S.length = (mkP k S.length).map pR := by simp [mkRows]
theorem mkRows_set {k : Int} {S : List (Int × Int)} {i : Nat} (hi : i < S.length) {e e' : List AV} : ((mkRows k S i).set i e').set i e = (mkRows k S i).set i e := by
  rw [List.set_set]
theorem mkRows_next {k : Int} {S : List (Int × Int)} {i : Nat} (hi : i < S.length) : (mkRows k S i).set i [I (k + 2 * i), I (k + 2 * i + 1)] = mkRows k S (i + 1) := by
  have e1 := mkP_len k i
  unfold mkRows
  have : [I (k + 2 * (i : Int)), I (k + 2 * (i : Int) + 1)] = pR (k + 2 * i, k + 2 * i + 1) := rfl
  rw [this, ← List.map_set]
  congr 1
  rw [List.set_append, if_neg (by omega), e1, Nat.sub_self, List.drop_eq_getElem_cons hi, List.set_cons_zero]
  simp [mkP, List.range_succ]
theorem mkRows_at {k : Int} {S : List (Int × Int)} {i : Nat} {e : List AV} (hi : i < S.length) (h : (mkRows k S i)[i]? = some e) : ∃ p, S[i]? = some p ∧ e = pR p := by
  unfold mkRows at h
  rw [List.getElem?_map, List.getElem?_append_right (by rw [mkP_len]; exact Nat.le_refl _), mkP_len, Nat.sub_self, List.getElem?_drop] at h
  obtain ⟨p, hp, rfl⟩ := Option.map_eq_some_iff.1 h
  exact ⟨p, by simpa using hp, rfl⟩
theorem setr_at {l : List (List AV)} {i : Nat} {r e : List AV} (h : (l.set i r)[i]? = some e) : e = r := by
  rw [List.getElem?_set] at h
  split at h
  · split at h
    · exact (Option.some.inj h).symm
    · cases h
  · rename_i q; exact absurd rfl q
def c_laws_markSlotS : Con := ⟨0, 3, false, fun xs hs _ K => match xs, hs with
  | [.own 0, .val (.int .i64 k)], [.arr 2 rows] => ∃ S : List (Int × Int), rows = S.map pR ∧ 0 ≤ k ∧ k ≤ 100000000 ∧ S.length < 2000000 ∧ K (I (k + 2 * S.length)) [.arr 2 ((mkP k S.length).map pR)] []
  | _, _ => False⟩
theorem k_laws_markSlotS : Keeps' Tryz.prog 28 c_laws_markSlotS := by
  refine keeps_of_vc mix TyT_ok (cok_stay cok_nil) Tryz.func28 rfl rfl rfl ?_
  intro aargs hs Fs K h
  simp only [c_laws_markSlotS] at h
  split at h
  case h_2 => exact h.elim
  rename_i k rows
  obtain ⟨S, rfl, h0, h1, hl, h⟩ := h
  repeat' (first|((conv=>whnf); (first|refine brK_dec (fun _=>?_) (fun _=>?_)|refine brK_ndec (fun _=>?_) (fun _=>?_)|refine brK_not (fun _=>?_) (fun _=>?_)|refine brK_in (fun _=>?_) (fun _=>?_)|refine And.intro (by first|exact rfl|exact ⟨_,rfl,rfl⟩|exact ⟨rfl,rfl,rfl⟩|exact of_decide_eq_true rfl|exact trivial|assumption|omega|(show (_ ≤ _ ∧ _ ≤ _); omega)|(simp; omega)|exact ⟨by first|omega|(simp; omega),_,rfl,rfl⟩) ?_|refine Quo.l (And.intro (by first|exact rfl|assumption|omega|(simp; omega)) ?_)|refine Quo.r (And.intro (by omega) ?_)|refine Both.mk ?_ ?_|refine Exists.intro _ (And.intro rfl ?_)|refine fun _=>?_))|exact rfl)
  refine loop_in (ι := Nat) (fun i => mkS 27 [(0, .own 0), (1, I (k + 2 * i)), (4, I 0), (5, I i)] [.arr 2 (mkRows k S i)] Fs) (fun i => i ≤ S.length) (fun i => S.length - i) 0 [0] (Nat.zero_le _) ?_ ?_
  · repeat' (first|((conv=>whnf); (first|refine brK_dec (fun _=>?_) (fun _=>?_)|refine brK_ndec (fun _=>?_) (fun _=>?_)|refine brK_not (fun _=>?_) (fun _=>?_)|refine brK_in (fun _=>?_) (fun _=>?_)|refine And.intro (by first|exact rfl|exact (mkRows_zero k S)|exact ⟨_,rfl,rfl⟩|exact ⟨rfl,rfl,rfl⟩|exact of_decide_eq_true rfl|exact trivial|assumption|omega|(show (_ ≤ _ ∧ _ ≤ _); omega)|(simp; omega)|exact ⟨by first|omega|(simp; omega),_,rfl,rfl⟩) ?_|refine Quo.l (And.intro (by first|exact rfl|exact (mkRows_zero k S)|assumption|omega|(simp; omega)) ?_)|refine Quo.r (And.intro (by omega) ?_)|refine Both.mk ?_ ?_|refine Exists.intro _ (And.intro rfl ?_)|refine fun _=>?_))|exact rfl)
  intro i hi
  have hrl := mkRows_len (k := k) hi
  rcases Nat.lt_or_ge i S.length with hil | hil
  · repeat' (first|((conv=>whnf); (first|refine brK_dec (fun _=>?_) (fun _=>?_)|refine brK_ndec (fun _=>?_) (fun _=>?_)|refine brK_not (fun _=>?_) (fun _=>?_)|refine brK_in (fun _=>?_) (fun _=>?_)|refine And.intro (by first|exact rfl|exact ⟨_,rfl,rfl⟩|exact ⟨rfl,rfl,rfl⟩|exact of_decide_eq_true rfl|exact trivial|assumption|omega|(show (_ ≤ _ ∧ _ ≤ _); omega)|(simp; omega)|exact ⟨by first|omega|(simp; omega),_,rfl,rfl⟩) ?_|refine Quo.l (And.intro (by first|exact rfl|assumption|omega|(simp; omega)) ?_)|refine Quo.r (And.intro (by omega) ?_)|refine Both.mk ?_ ?_|refine Exists.intro _ (And.intro rfl ?_)|refine fun _=>?_))|exact rfl)
    · rename_i e he e2 he2
      obtain ⟨p, hp, rfl⟩ := mkRows_at hil he
      obtain rfl := setr_at he2
      have e1 : ((mkRows k S i).set ((i : Nat) : Int).toNat (splice (pR p) 0 [I (k + 2 * i)])).set ((i : Nat) : Int).toNat (splice (splice (pR p) 0 [I (k + 2 * i)]) 1 [I (k + 2 * i + 1)]) = mkRows k S (i + 1) := by
        rw [List.set_set]
        exact mkRows_next hil
      refine ⟨i + 1, [0], by omega, by omega, ?_⟩
      repeat' (first|((conv=>whnf); (first|refine brK_dec (fun _=>?_) (fun _=>?_)|refine brK_ndec (fun _=>?_) (fun _=>?_)|refine brK_not (fun _=>?_) (fun _=>?_)|refine brK_in (fun _=>?_) (fun _=>?_)|refine And.intro (by first|exact rfl|exact e1.symm|exact ⟨_,rfl,rfl⟩|exact ⟨rfl,rfl,rfl⟩|exact of_decide_eq_true rfl|exact trivial|assumption|omega|(show (_ ≤ _ ∧ _ ≤ _); omega)|(simp; omega)|exact ⟨by first|omega|(simp; omega),_,rfl,rfl⟩) ?_|refine Quo.l (And.intro (by first|exact rfl|exact e1.symm|assumption|omega|(simp; omega)) ?_)|refine Quo.r (And.intro (by omega) ?_)|refine Both.mk ?_ ?_|refine Exists.intro _ (And.intro rfl ?_)|refine fun _=>?_))|exact rfl)
    · omega
  · repeat' (first|((conv=>whnf); (first|refine brK_dec (fun _=>?_) (fun _=>?_)|refine brK_ndec (fun _=>?_) (fun _=>?_)|refine brK_not (fun _=>?_) (fun _=>?_)|refine brK_in (fun _=>?_) (fun _=>?_)|refine And.intro (by first|exact rfl|exact ⟨_,rfl,rfl⟩|exact ⟨rfl,rfl,rfl⟩|exact of_decide_eq_true rfl|exact trivial|assumption|omega|(show (_ ≤ _ ∧ _ ≤ _); omega)|(simp; omega)|exact ⟨by first|omega|(simp; omega),_,rfl,rfl⟩) ?_|refine Quo.l (And.intro (by first|exact rfl|assumption|omega|(simp; omega)) ?_)|refine Quo.r (And.intro (by omega) ?_)|refine Both.mk ?_ ?_|refine Exists.intro _ (And.intro rfl ?_)|refine fun _=>?_))|exact rfl)
    · omega
    obtain rfl : i = S.length := by omega
    rw [mkRows_all]
    exact ⟨⟨rfl, by simp [roFreeB, pR, roFreeC], rfl⟩, h⟩
def c_laws_heldSlotS : Con := ⟨0, 0, false, fun xs hs _ K => match xs with
  | [.sl 2 rows, .val (.int .i64 k)] => hs = [] ∧ ∃ S : List (Int × Int), rows = S.map pR ∧ 0 ≤ k ∧ k ≤ 100000000 ∧ S.length < 2000000 ∧ S = mkP k S.length ∧ K (I (k + 2 * S.length)) [] []
  | _ => False⟩
theorem k_laws_heldSlotS : Keeps' Tryz.prog 29 c_laws_heldSlotS := by
  refine keeps_of_vc mix TyT_ok cok_nil Tryz.func29 rfl rfl rfl ?_
  intro aargs hs Fs K h
  simp only [c_laws_heldSlotS] at h
  split at h
  case h_2 => exact h.elim
  rename_i rows k
  obtain ⟨rfl, S, rfl, h0, h1, hl, hm, h⟩ := h
  have hlen : (S.map pR).length = S.length := by simp
  repeat' (first|((conv=>whnf); (first|refine brK_dec (fun _=>?_) (fun _=>?_)|refine brK_ndec (fun _=>?_) (fun _=>?_)|refine brK_not (fun _=>?_) (fun _=>?_)|refine brK_in (fun _=>?_) (fun _=>?_)|refine And.intro (by first|exact rfl|exact ⟨_,rfl,rfl⟩|exact ⟨rfl,rfl,rfl⟩|exact of_decide_eq_true rfl|exact trivial|assumption|omega|(show (_ ≤ _ ∧ _ ≤ _); omega)|(simp; omega)|exact ⟨by first|omega|(simp; omega),_,rfl,rfl⟩) ?_|refine Quo.l (And.intro (by first|exact rfl|assumption|omega|(simp; omega)) ?_)|refine Quo.r (And.intro (by omega) ?_)|refine Both.mk ?_ ?_|refine Exists.intro _ (And.intro rfl ?_)|refine fun _=>?_))|exact rfl)
  refine loop_in (ι := Nat) (fun i => mkS 31 [(0, .sl 2 (S.map pR)), (1, I (k + 2 * i)), (4, I 0), (5, I i)] [] Fs) (fun i => i ≤ S.length) (fun i => S.length - i) 0 [] (Nat.zero_le _) ?_ ?_
  · repeat' (first|((conv=>whnf); (first|refine brK_dec (fun _=>?_) (fun _=>?_)|refine brK_ndec (fun _=>?_) (fun _=>?_)|refine brK_not (fun _=>?_) (fun _=>?_)|refine brK_in (fun _=>?_) (fun _=>?_)|refine And.intro (by first|exact rfl|exact ⟨_,rfl,rfl⟩|exact ⟨rfl,rfl,rfl⟩|exact of_decide_eq_true rfl|exact trivial|assumption|omega|(show (_ ≤ _ ∧ _ ≤ _); omega)|(simp; omega)|exact ⟨by first|omega|(simp; omega),_,rfl,rfl⟩) ?_|refine Quo.l (And.intro (by first|exact rfl|assumption|omega|(simp; omega)) ?_)|refine Quo.r (And.intro (by omega) ?_)|refine Both.mk ?_ ?_|refine Exists.intro _ (And.intro rfl ?_)|refine fun _=>?_))|exact rfl)
  intro i hi
  rcases Nat.lt_or_ge i S.length with hil | hil
  · obtain ⟨x, hx⟩ : ∃ x, S[((i : Nat) : Int).toNat]? = some x := ⟨_, List.getElem?_eq_getElem hil⟩
    have hx2 : x = (k + 2 * i, k + 2 * i + 1) := by
      have hx : S[i]? = some x := hx
      rw [hm] at hx
      exact mkP_get hx
    have q1 : x.1 = k + 2 * i := by rw [hx2]
    have q2 : x.2 = k + 2 * i + 1 := by rw [hx2]
    repeat' (first|((conv=>whnf); (first|refine brK_dec (fun _=>?_) (fun _=>?_)|refine brK_ndec (fun _=>?_) (fun _=>?_)|refine brK_not (fun _=>?_) (fun _=>?_)|refine brK_in (fun _=>?_) (fun _=>?_)|refine And.intro (by first|exact rfl|exact ⟨_,rfl,rfl⟩|exact ⟨rfl,rfl,rfl⟩|exact of_decide_eq_true rfl|exact trivial|assumption|omega|(show (_ ≤ _ ∧ _ ≤ _); omega)|(simp; omega)|exact ⟨by first|omega|(simp; omega),_,rfl,rfl⟩) ?_|refine Quo.l (And.intro (by first|exact rfl|assumption|omega|(simp; omega)) ?_)|refine Quo.r (And.intro (by omega) ?_)|refine Both.mk ?_ ?_|refine Exists.intro _ (And.intro rfl ?_)|refine prow_use (by assumption) ?_|refine fun _=>?_))|exact rfl)
    all_goals first
      | (rename_i q; exact absurd q1 q)
      | (rename_i q; exact absurd q2 q)
      | omega
      | (refine ⟨i + 1, [], by omega, by omega, ?_⟩
         repeat' (first|((conv=>whnf); (first|refine brK_dec (fun _=>?_) (fun _=>?_)|refine brK_ndec (fun _=>?_) (fun _=>?_)|refine brK_not (fun _=>?_) (fun _=>?_)|refine brK_in (fun _=>?_) (fun _=>?_)|refine And.intro (by first|exact rfl|exact ⟨_,rfl,rfl⟩|exact ⟨rfl,rfl,rfl⟩|exact of_decide_eq_true rfl|exact trivial|assumption|omega|(show (_ ≤ _ ∧ _ ≤ _); omega)|(simp; omega)|exact ⟨by first|omega|(simp; omega),_,rfl,rfl⟩) ?_|refine Quo.l (And.intro (by first|exact rfl|assumption|omega|(simp; omega)) ?_)|refine Quo.r (And.intro (by omega) ?_)|refine Both.mk ?_ ?_|refine Exists.intro _ (And.intro rfl ?_)|refine prow_use (by assumption) ?_|refine fun _=>?_))|exact rfl)
         done)
      | trace_state
  · repeat' (first|((conv=>whnf); (first|refine brK_dec (fun _=>?_) (fun _=>?_)|refine brK_ndec (fun _=>?_) (fun _=>?_)|refine brK_not (fun _=>?_) (fun _=>?_)|refine brK_in (fun _=>?_) (fun _=>?_)|refine And.intro (by first|exact rfl|exact ⟨_,rfl,rfl⟩|exact ⟨rfl,rfl,rfl⟩|exact of_decide_eq_true rfl|exact trivial|assumption|omega|(show (_ ≤ _ ∧ _ ≤ _); omega)|(simp; omega)|exact ⟨by first|omega|(simp; omega),_,rfl,rfl⟩) ?_|refine Quo.l (And.intro (by first|exact rfl|assumption|omega|(simp; omega)) ?_)|refine Quo.r (And.intro (by omega) ?_)|refine Both.mk ?_ ?_|refine Exists.intro _ (And.intro rfl ?_)|refine fun _=>?_))|exact rfl)
    · omega
    obtain rfl : i = S.length := by omega
    exact h
end Go.Proofs.YtkabnbjlglippaaGreatDoor
