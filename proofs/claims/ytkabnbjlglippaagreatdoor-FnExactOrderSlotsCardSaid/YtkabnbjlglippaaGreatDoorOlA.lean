/-
Lists of slots compared by the laws and by the program.
No conditions.
-/
import Derived.Test.YtkabnbjlglippaaGreatDoorOiX
namespace Go.Proofs.YtkabnbjlglippaaGreatDoor
open Go Go.Vc
set_option maxHeartbeats 4000000
set_option maxRecDepth 10000
theorem prow_in {o : List (Int × Int)} {n : Nat} {P : List AV → Prop} (h : ∀ p, o[n]? = some p → P (pR p)) : ∀ e, (o.map pR)[n]? = some e → P e := by
  intro e he
  rw [List.getElem?_map] at he
  obtain ⟨v, hv, rfl⟩ := Option.map_eq_some_iff.1 he
  exact h v hv
theorem prow_use {o : List (Int × Int)} {n : Nat} {p : Int × Int} {P : List AV → Prop} (hp : o[n]? = some p) (h : P (pR p)) : ∀ e, (o.map pR)[n]? = some e → P e :=
  prow_in fun q hq => by
    rw [hp] at hq
    cases hq
    exact h
def c_sameSlots : Con := ⟨0, 0, false, fun xs hs _ K => match xs with
  | [.sl 2 ra, .sl 2 rb] => hs = [] ∧ ∃ a b : List (Int × Int), ra = a.map pR ∧ rb = b.map pR ∧ a.length < 2000000000 ∧ b.length < 2000000000 ∧ K (B (decide (a = b))) [] []
  | _ => False⟩
theorem eq_takeP {a b : List (Int × Int)} {i : Nat} {x y : Int × Int} (h : a.take i = b.take i) (hx : a[i]? = some x) (hy : b[i]? = some y) (e : x = y) : a.take (i + 1) = b.take (i + 1) := by
  rw [List.take_add_one, List.take_add_one, h, hx, hy, e]
theorem k_laws_sameSlots : Keeps' Tryz.prog 31 c_sameSlots := by
  refine keeps_of_vc mix TyT_ok cok_nil Tryz.func31 rfl rfl rfl ?_
  intro aargs hs Fs K h
  simp only [c_sameSlots] at h
  split at h
  case h_2 => exact h.elim
  rename_i ra rb
  obtain ⟨rfl, a, b, rfl, rfl, ha, hb, h⟩ := h
  have no : ∀ {c : Bool}, decide (a = b) = c → K (B c) [] [] := fun e => by rw [← e]; exact h
  have hal : (a.map pR).length = a.length := by simp
  have hbl : (b.map pR).length = b.length := by simp
  repeat' (first|((conv=>whnf); (first|refine brK_dec (fun _=>?_) (fun _=>?_)|refine brK_ndec (fun _=>?_) (fun _=>?_)|refine brK_not (fun _=>?_) (fun _=>?_)|refine brK_in (fun _=>?_) (fun _=>?_)|refine And.intro (by first|exact rfl|exact ⟨_,rfl,rfl⟩|exact ⟨rfl,rfl,rfl⟩|exact of_decide_eq_true rfl|exact trivial|assumption|omega|(show (_ ≤ _ ∧ _ ≤ _); omega)|(simp; omega)|exact ⟨by first|omega|(simp; omega),_,rfl,rfl⟩) ?_|refine Quo.l (And.intro (by first|exact rfl|assumption|omega|(simp; omega)) ?_)|refine Quo.r (And.intro (by omega) ?_)|refine Both.mk ?_ ?_|refine Exists.intro _ (And.intro rfl ?_)|refine prow_in (fun _ _=>?_)|refine fun _=>?_))|exact rfl)
  · rename_i h1
    refine no ?_
    have : a ≠ b := by rintro rfl; exact h1 rfl
    simp [this]
  rename_i h1
  have hlen : a.length = b.length := by omega
  refine loop_in (ι := Nat) (fun i => mkS 26 [(0, .sl 2 (a.map pR)), (1, .sl 2 (b.map pR)), (4, B false), (5, I i)] [] Fs) (fun i => i ≤ a.length ∧ a.take i = b.take i) (fun i => a.length - i) 0 [] ⟨Nat.zero_le _, by simp⟩ ?_ ?_
  · repeat' (first|((conv=>whnf); (first|refine brK_dec (fun _=>?_) (fun _=>?_)|refine brK_ndec (fun _=>?_) (fun _=>?_)|refine brK_not (fun _=>?_) (fun _=>?_)|refine brK_in (fun _=>?_) (fun _=>?_)|refine And.intro (by first|exact rfl|exact ⟨_,rfl,rfl⟩|exact ⟨rfl,rfl,rfl⟩|exact of_decide_eq_true rfl|exact trivial|assumption|omega|(show (_ ≤ _ ∧ _ ≤ _); omega)|(simp; omega)|exact ⟨by first|omega|(simp; omega),_,rfl,rfl⟩) ?_|refine Quo.l (And.intro (by first|exact rfl|assumption|omega|(simp; omega)) ?_)|refine Quo.r (And.intro (by omega) ?_)|refine Both.mk ?_ ?_|refine Exists.intro _ (And.intro rfl ?_)|refine prow_in (fun _ _=>?_)|refine fun _=>?_))|exact rfl)
  intro i ⟨hi, hall⟩
  rcases Nat.lt_or_ge i a.length with hil | hil
  · obtain ⟨x, hx⟩ : ∃ x, a[((i : Nat) : Int).toNat]? = some x := ⟨_, List.getElem?_eq_getElem hil⟩
    obtain ⟨y, hy⟩ : ∃ y, b[((i : Nat) : Int).toNat]? = some y := ⟨_, List.getElem?_eq_getElem (by show i < _; omega)⟩
    repeat' (first|((conv=>whnf); (first|refine draw_plan (id := 6) [] [] (.take 0 (.take 1 (.take 2 (.take 3 (.take 4 (.take 5 (.take 6 (.take 7 (.take 8 .done))))))))) (by kernel_rfl) (by kernel_rfl) ?_|refine brK_dec (fun _=>?_) (fun _=>?_)|refine brK_ndec (fun _=>?_) (fun _=>?_)|refine brK_not (fun _=>?_) (fun _=>?_)|refine brK_in (fun _=>?_) (fun _=>?_)|refine And.intro (by first|exact rfl|exact ⟨_,rfl,rfl⟩|exact ⟨rfl,rfl,rfl⟩|exact of_decide_eq_true rfl|exact trivial|assumption|omega|(show (_ ≤ _ ∧ _ ≤ _); omega)|(simp; omega)|exact ⟨by first|omega|(simp; omega),_,rfl,rfl⟩) ?_|refine Quo.l (And.intro (by first|exact rfl|assumption|omega|(simp; omega)) ?_)|refine Quo.r (And.intro (by omega) ?_)|refine Both.mk ?_ ?_|refine Exists.intro _ (And.intro rfl ?_)|refine prow_use (by assumption) ?_|refine fun _=>?_))|exact rfl)
    · rename_i e
      refine no ?_
      have : a ≠ b := by
        rintro rfl
        rw [hx] at hy
        cases hy
        exact e ⟨rfl, rfl⟩
      simp [this]
    · rename_i e
      refine ⟨i + 1, [], ⟨by omega, eq_takeP hall hx hy (Prod.ext e.1 e.2)⟩, by omega, ?_⟩
      repeat' (first|((conv=>whnf); (first|refine brK_dec (fun _=>?_) (fun _=>?_)|refine brK_ndec (fun _=>?_) (fun _=>?_)|refine brK_not (fun _=>?_) (fun _=>?_)|refine brK_in (fun _=>?_) (fun _=>?_)|refine And.intro (by first|exact rfl|exact ⟨_,rfl,rfl⟩|exact ⟨rfl,rfl,rfl⟩|exact of_decide_eq_true rfl|exact trivial|assumption|omega|(show (_ ≤ _ ∧ _ ≤ _); omega)|(simp; omega)|exact ⟨by first|omega|(simp; omega),_,rfl,rfl⟩) ?_|refine Quo.l (And.intro (by first|exact rfl|assumption|omega|(simp; omega)) ?_)|refine Quo.r (And.intro (by omega) ?_)|refine Both.mk ?_ ?_|refine Exists.intro _ (And.intro rfl ?_)|refine prow_use (by assumption) ?_|refine fun _=>?_))|exact rfl)
    · omega
  · repeat' (first|((conv=>whnf); (first|refine brK_dec (fun _=>?_) (fun _=>?_)|refine brK_ndec (fun _=>?_) (fun _=>?_)|refine brK_not (fun _=>?_) (fun _=>?_)|refine brK_in (fun _=>?_) (fun _=>?_)|refine And.intro (by first|exact rfl|exact ⟨_,rfl,rfl⟩|exact ⟨rfl,rfl,rfl⟩|exact of_decide_eq_true rfl|exact trivial|assumption|omega|(show (_ ≤ _ ∧ _ ≤ _); omega)|(simp; omega)|exact ⟨by first|omega|(simp; omega),_,rfl,rfl⟩) ?_|refine Quo.l (And.intro (by first|exact rfl|assumption|omega|(simp; omega)) ?_)|refine Quo.r (And.intro (by omega) ?_)|refine Both.mk ?_ ?_|refine Exists.intro _ (And.intro rfl ?_)|refine prow_use (by assumption) ?_|refine fun _=>?_))|exact rfl)
    · omega
    rw [List.take_of_length_le (by omega), List.take_of_length_le (by omega)] at hall
    exact no (by simp [hall])
theorem k_slices_Equal_Slot : Keeps' Tryz.prog 76 c_sameSlots := by
  refine keeps_of_vc mix TyT_ok cok_nil Tryz.func76 rfl rfl rfl ?_
  intro aargs hs Fs K h
  simp only [c_sameSlots] at h
  split at h
  case h_2 => exact h.elim
  rename_i ra rb
  obtain ⟨rfl, a, b, rfl, rfl, ha, hb, h⟩ := h
  have no : ∀ {c : Bool}, decide (a = b) = c → K (B c) [] [] := fun e => by rw [← e]; exact h
  have hal : (a.map pR).length = a.length := by simp
  have hbl : (b.map pR).length = b.length := by simp
  repeat' (first|((conv=>whnf); (first|refine brK_dec (fun _=>?_) (fun _=>?_)|refine brK_ndec (fun _=>?_) (fun _=>?_)|refine brK_not (fun _=>?_) (fun _=>?_)|refine brK_in (fun _=>?_) (fun _=>?_)|refine And.intro (by first|exact rfl|exact ⟨_,rfl,rfl⟩|exact ⟨rfl,rfl,rfl⟩|exact of_decide_eq_true rfl|exact trivial|assumption|omega|(show (_ ≤ _ ∧ _ ≤ _); omega)|(simp; omega)|exact ⟨by first|omega|(simp; omega),_,rfl,rfl⟩) ?_|refine Quo.l (And.intro (by first|exact rfl|assumption|omega|(simp; omega)) ?_)|refine Quo.r (And.intro (by omega) ?_)|refine Both.mk ?_ ?_|refine Exists.intro _ (And.intro rfl ?_)|refine prow_use (by assumption) ?_|refine fun _=>?_))|exact rfl)
  · rename_i h1
    refine no ?_
    have : a ≠ b := by rintro rfl; exact h1 rfl
    simp [this]
  rename_i h1
  have hlen : a.length = b.length := by omega
  refine loop_in (ι := Nat) (fun i => mkS 26 [(0, .sl 2 (a.map pR)), (1, .sl 2 (b.map pR)), (4, B false), (12, I (a.map pR).length), (13, I i)] [] Fs) (fun i => i ≤ a.length ∧ a.take i = b.take i) (fun i => a.length - i) 0 [] ⟨Nat.zero_le _, by simp⟩ ?_ ?_
  · repeat' (first|((conv=>whnf); (first|refine brK_dec (fun _=>?_) (fun _=>?_)|refine brK_ndec (fun _=>?_) (fun _=>?_)|refine brK_not (fun _=>?_) (fun _=>?_)|refine brK_in (fun _=>?_) (fun _=>?_)|refine And.intro (by first|exact rfl|exact ⟨_,rfl,rfl⟩|exact ⟨rfl,rfl,rfl⟩|exact of_decide_eq_true rfl|exact trivial|assumption|omega|(show (_ ≤ _ ∧ _ ≤ _); omega)|(simp; omega)|exact ⟨by first|omega|(simp; omega),_,rfl,rfl⟩) ?_|refine Quo.l (And.intro (by first|exact rfl|assumption|omega|(simp; omega)) ?_)|refine Quo.r (And.intro (by omega) ?_)|refine Both.mk ?_ ?_|refine Exists.intro _ (And.intro rfl ?_)|refine prow_use (by assumption) ?_|refine fun _=>?_))|exact rfl)
  intro i ⟨hi, hall⟩
  rcases Nat.lt_or_ge i a.length with hil | hil
  · obtain ⟨x, hx⟩ : ∃ x, a[((i : Nat) : Int).toNat]? = some x := ⟨_, List.getElem?_eq_getElem hil⟩
    obtain ⟨y, hy⟩ : ∃ y, b[((i : Nat) : Int).toNat]? = some y := ⟨_, List.getElem?_eq_getElem (by show i < _; omega)⟩
    repeat' (first|((conv=>whnf); (first|refine draw_plan (id := 6) [] [] (.take 0 (.take 1 (.take 2 (.take 3 (.take 4 (.take 5 (.take 6 (.take 7 (.take 8 .done))))))))) (by kernel_rfl) (by kernel_rfl) ?_|refine brK_dec (fun _=>?_) (fun _=>?_)|refine brK_ndec (fun _=>?_) (fun _=>?_)|refine brK_not (fun _=>?_) (fun _=>?_)|refine brK_in (fun _=>?_) (fun _=>?_)|refine And.intro (by first|exact rfl|exact ⟨_,rfl,rfl⟩|exact ⟨rfl,rfl,rfl⟩|exact of_decide_eq_true rfl|exact trivial|assumption|omega|(show (_ ≤ _ ∧ _ ≤ _); omega)|(simp; omega)|exact ⟨by first|omega|(simp; omega),_,rfl,rfl⟩) ?_|refine Quo.l (And.intro (by first|exact rfl|assumption|omega|(simp; omega)) ?_)|refine Quo.r (And.intro (by omega) ?_)|refine Both.mk ?_ ?_|refine Exists.intro _ (And.intro rfl ?_)|refine prow_use (by assumption) ?_|refine fun _=>?_))|exact rfl)
    · rename_i e
      refine no ?_
      have : a ≠ b := by
        rintro rfl
        rw [hx] at hy
        cases hy
        exact e ⟨rfl, rfl⟩
      simp [this]
    · rename_i e
      refine ⟨i + 1, [], ⟨by omega, eq_takeP hall hx hy (Prod.ext e.1 e.2)⟩, by omega, ?_⟩
      repeat' (first|((conv=>whnf); (first|refine brK_dec (fun _=>?_) (fun _=>?_)|refine brK_ndec (fun _=>?_) (fun _=>?_)|refine brK_not (fun _=>?_) (fun _=>?_)|refine brK_in (fun _=>?_) (fun _=>?_)|refine And.intro (by first|exact rfl|exact ⟨_,rfl,rfl⟩|exact ⟨rfl,rfl,rfl⟩|exact of_decide_eq_true rfl|exact trivial|assumption|omega|(show (_ ≤ _ ∧ _ ≤ _); omega)|(simp; omega)|exact ⟨by first|omega|(simp; omega),_,rfl,rfl⟩) ?_|refine Quo.l (And.intro (by first|exact rfl|assumption|omega|(simp; omega)) ?_)|refine Quo.r (And.intro (by omega) ?_)|refine Both.mk ?_ ?_|refine Exists.intro _ (And.intro rfl ?_)|refine prow_use (by assumption) ?_|refine fun _=>?_))|exact rfl)
    · omega
  · repeat' (first|((conv=>whnf); (first|refine brK_dec (fun _=>?_) (fun _=>?_)|refine brK_ndec (fun _=>?_) (fun _=>?_)|refine brK_not (fun _=>?_) (fun _=>?_)|refine brK_in (fun _=>?_) (fun _=>?_)|refine And.intro (by first|exact rfl|exact ⟨_,rfl,rfl⟩|exact ⟨rfl,rfl,rfl⟩|exact of_decide_eq_true rfl|exact trivial|assumption|omega|(show (_ ≤ _ ∧ _ ≤ _); omega)|(simp; omega)|exact ⟨by first|omega|(simp; omega),_,rfl,rfl⟩) ?_|refine Quo.l (And.intro (by first|exact rfl|assumption|omega|(simp; omega)) ?_)|refine Quo.r (And.intro (by omega) ?_)|refine Both.mk ?_ ?_|refine Exists.intro _ (And.intro rfl ?_)|refine prow_use (by assumption) ?_|refine fun _=>?_))|exact rfl)
    · omega
    rw [List.take_of_length_le (by omega), List.take_of_length_le (by omega)] at hall
    exact no (by simp [hall])
def prefP (a b : List (Int × Int)) : Bool := decide (a.length ≤ b.length) && decide (a = b.take a.length)
theorem prefP_of {a b : List (Int × Int)} (h : a <+: b) : prefP a b = true := by
  obtain ⟨t, rfl⟩ := h
  simp [prefP]
def c_impl_SlotsPrefix : Con := ⟨0, 0, false, fun xs hs _ K => match xs with
  | [.sl 2 ra, .sl 2 rb] => hs = [] ∧ ∃ a b : List (Int × Int), ra = a.map pR ∧ rb = b.map pR ∧ a.length < 2000000000 ∧ b.length < 2000000000 ∧ K (B (prefP a b)) [] []
  | _ => False⟩
theorem k_impl_SlotsPrefix : Keeps' Tryz.prog 47 c_impl_SlotsPrefix := by
  refine keeps_of_vc mix TyT_ok (cok_cons k_slices_Equal_Slot Tryz.func76 rfl rfl cok_nil) Tryz.func47 rfl rfl rfl ?_
  intro aargs hs Fs K h
  simp only [c_impl_SlotsPrefix] at h
  split at h
  case h_2 => exact h.elim
  rename_i ra rb
  obtain ⟨rfl, a, b, rfl, rfl, ha, hb, h⟩ := h
  have no : ∀ {c : Bool}, prefP a b = c → K (B c) [] [] := fun e => by rw [← e]; exact h
  have hal : (a.map pR).length = a.length := by simp
  have hbl : (b.map pR).length = b.length := by simp
  have hbt : (List.take (((a.map pR).length : Int).toNat - 0) (List.drop 0 (b.map pR))) = (b.take a.length).map pR := by simp
  have hbt2 : (b.take a.length).length < 2000000000 := by rw [List.length_take]; omega
  repeat' (first|((conv=>whnf); (first|refine Exists.intro a (Exists.intro (b.take a.length) (And.intro rfl (And.intro hbt (And.intro ha (And.intro hbt2 ?_)))))|refine brK_dec (fun _=>?_) (fun _=>?_)|refine brK_ndec (fun _=>?_) (fun _=>?_)|refine brK_not (fun _=>?_) (fun _=>?_)|refine brK_in (fun _=>?_) (fun _=>?_)|refine And.intro (by first|exact rfl|exact ⟨_,rfl,rfl⟩|exact ⟨rfl,rfl,rfl⟩|exact of_decide_eq_true rfl|exact trivial|assumption|omega|(show (_ ≤ _ ∧ _ ≤ _); omega)|(simp; omega)|exact ⟨by first|omega|(simp; omega),_,rfl,rfl⟩) ?_|refine Quo.l (And.intro (by first|exact rfl|assumption|omega|(simp; omega)) ?_)|refine Quo.r (And.intro (by omega) ?_)|refine Both.mk ?_ ?_|refine Exists.intro _ (And.intro rfl ?_)|refine fun _=>?_))|exact rfl)
  · rename_i h1
    refine no ?_
    rw [prefP, decide_eq_true (by omega)]
    rfl
  · rename_i h1
    refine no ?_
    rw [prefP, decide_eq_false (by omega)]
    rfl
def c_hasSlot : Con := ⟨0, 0, false, fun xs hs _ K => match xs with
  | [.sl 2 ra, .agg [.val (.int .i64 r), .val (.int .i64 x)]] => hs = [] ∧ ∃ a : List (Int × Int), ra = a.map pR ∧ a.length < 2000000000 ∧ K (B (decide ((r, x) ∈ a))) [] []
  | _ => False⟩
theorem k_laws_hasSlot : Keeps' Tryz.prog 34 c_hasSlot := by
  refine keeps_of_vc mix TyT_ok cok_nil Tryz.func34 rfl rfl rfl ?_
  intro aargs hs Fs K h
  simp only [c_hasSlot] at h
  split at h
  case h_2 => exact h.elim
  rename_i ra r x
  obtain ⟨rfl, a, rfl, ha, h⟩ := h
  have no : ∀ {c : Bool}, decide ((r, x) ∈ a) = c → K (B c) [] [] := fun e => by rw [← e]; exact h
  have hal : (a.map pR).length = a.length := by simp
  repeat' (first|((conv=>whnf); (first|refine brK_dec (fun _=>?_) (fun _=>?_)|refine brK_ndec (fun _=>?_) (fun _=>?_)|refine brK_not (fun _=>?_) (fun _=>?_)|refine brK_in (fun _=>?_) (fun _=>?_)|refine And.intro (by first|exact rfl|exact ⟨_,rfl,rfl⟩|exact ⟨rfl,rfl,rfl⟩|exact of_decide_eq_true rfl|exact trivial|assumption|omega|(show (_ ≤ _ ∧ _ ≤ _); omega)|(simp; omega)|exact ⟨by first|omega|(simp; omega),_,rfl,rfl⟩) ?_|refine Quo.l (And.intro (by first|exact rfl|assumption|omega|(simp; omega)) ?_)|refine Quo.r (And.intro (by omega) ?_)|refine Both.mk ?_ ?_|refine Exists.intro _ (And.intro rfl ?_)|refine fun _=>?_))|exact rfl)
  refine loop_in (ι := Nat) (fun i => mkS 18 [(0, .sl 2 (a.map pR)), (3, .ptr 0 0), (4, B false), (5, I i)] [.cells [I r, I x]] Fs) (fun i => i ≤ a.length ∧ ∀ p ∈ a.take i, p ≠ (r, x)) (fun i => a.length - i) 0 [0] ⟨Nat.zero_le _, by simp⟩ ?_ ?_
  · repeat' (first|((conv=>whnf); (first|refine brK_dec (fun _=>?_) (fun _=>?_)|refine brK_ndec (fun _=>?_) (fun _=>?_)|refine brK_not (fun _=>?_) (fun _=>?_)|refine brK_in (fun _=>?_) (fun _=>?_)|refine And.intro (by first|exact rfl|exact ⟨_,rfl,rfl⟩|exact ⟨rfl,rfl,rfl⟩|exact of_decide_eq_true rfl|exact trivial|assumption|omega|(show (_ ≤ _ ∧ _ ≤ _); omega)|(simp; omega)|exact ⟨by first|omega|(simp; omega),_,rfl,rfl⟩) ?_|refine Quo.l (And.intro (by first|exact rfl|assumption|omega|(simp; omega)) ?_)|refine Quo.r (And.intro (by omega) ?_)|refine Both.mk ?_ ?_|refine Exists.intro _ (And.intro rfl ?_)|refine fun _=>?_))|exact rfl)
  intro i ⟨hi, hall⟩
  rcases Nat.lt_or_ge i a.length with hil | hil
  · obtain ⟨p, hp⟩ : ∃ p, a[((i : Nat) : Int).toNat]? = some p := ⟨_, List.getElem?_eq_getElem hil⟩
    repeat' (first|((conv=>whnf); (first|refine draw_plan (id := 4) [] [] (.take 0 (.take 1 (.take 2 (.take 3 (.take 4 (.take 5 .done)))))) (by kernel_rfl) (by kernel_rfl) ?_|refine brK_dec (fun _=>?_) (fun _=>?_)|refine brK_ndec (fun _=>?_) (fun _=>?_)|refine brK_not (fun _=>?_) (fun _=>?_)|refine brK_in (fun _=>?_) (fun _=>?_)|refine And.intro (by first|exact rfl|exact ⟨_,rfl,rfl⟩|exact ⟨rfl,rfl,rfl⟩|exact of_decide_eq_true rfl|exact trivial|assumption|omega|(show (_ ≤ _ ∧ _ ≤ _); omega)|(simp; omega)|exact ⟨by first|omega|(simp; omega),_,rfl,rfl⟩) ?_|refine Quo.l (And.intro (by first|exact rfl|assumption|omega|(simp; omega)) ?_)|refine Quo.r (And.intro (by omega) ?_)|refine Both.mk ?_ ?_|refine Exists.intro _ (And.intro rfl ?_)|refine prow_use (by assumption) ?_|refine fun _=>?_))|exact rfl)
    · rename_i e
      refine no (decide_eq_true ?_)
      have : p = (r, x) := Prod.ext e.1 e.2
      rw [← this]
      exact List.mem_of_getElem? hp
    · rename_i e
      refine ⟨i + 1, [0], ⟨by omega, fun q hq => ?_⟩, by omega, ?_⟩
      · have hp : a[i]? = some p := hp
        rw [List.take_add_one, hp] at hq
        rcases List.mem_append.1 hq with hq | hq
        · exact hall q hq
        · have : q = p := by simpa using hq
          subst this
          rintro rfl
          exact e ⟨rfl, rfl⟩
      repeat' (first|((conv=>whnf); (first|refine brK_dec (fun _=>?_) (fun _=>?_)|refine brK_ndec (fun _=>?_) (fun _=>?_)|refine brK_not (fun _=>?_) (fun _=>?_)|refine brK_in (fun _=>?_) (fun _=>?_)|refine And.intro (by first|exact rfl|exact ⟨_,rfl,rfl⟩|exact ⟨rfl,rfl,rfl⟩|exact of_decide_eq_true rfl|exact trivial|assumption|omega|(show (_ ≤ _ ∧ _ ≤ _); omega)|(simp; omega)|exact ⟨by first|omega|(simp; omega),_,rfl,rfl⟩) ?_|refine Quo.l (And.intro (by first|exact rfl|assumption|omega|(simp; omega)) ?_)|refine Quo.r (And.intro (by omega) ?_)|refine Both.mk ?_ ?_|refine Exists.intro _ (And.intro rfl ?_)|refine prow_use (by assumption) ?_|refine fun _=>?_))|exact rfl)
    · omega
  · repeat' (first|((conv=>whnf); (first|refine brK_dec (fun _=>?_) (fun _=>?_)|refine brK_ndec (fun _=>?_) (fun _=>?_)|refine brK_not (fun _=>?_) (fun _=>?_)|refine brK_in (fun _=>?_) (fun _=>?_)|refine And.intro (by first|exact rfl|exact ⟨_,rfl,rfl⟩|exact ⟨rfl,rfl,rfl⟩|exact of_decide_eq_true rfl|exact trivial|assumption|omega|(show (_ ≤ _ ∧ _ ≤ _); omega)|(simp; omega)|exact ⟨by first|omega|(simp; omega),_,rfl,rfl⟩) ?_|refine Quo.l (And.intro (by first|exact rfl|assumption|omega|(simp; omega)) ?_)|refine Quo.r (And.intro (by omega) ?_)|refine Both.mk ?_ ?_|refine Exists.intro _ (And.intro rfl ?_)|refine prow_use (by assumption) ?_|refine fun _=>?_))|exact rfl)
    · omega
    rw [List.take_of_length_le (by omega)] at hall
    exact no (decide_eq_false fun hx => hall _ hx rfl)
end Go.Proofs.YtkabnbjlglippaaGreatDoor
