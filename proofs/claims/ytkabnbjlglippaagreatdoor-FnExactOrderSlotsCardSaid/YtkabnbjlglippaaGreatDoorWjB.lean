/-
Nodes among nodes; binary search; the program's check of leaders.
No conditions.
-/
import Derived.Test.YtkabnbjlglippaaGreatDoorWjA
import Derived.Test.YtkabnbjlglippaaGreatDoorWgX
namespace Go.Proofs.YtkabnbjlglippaaGreatDoor
open Go Go.Vc
set_option maxHeartbeats 2000000
set_option maxRecDepth 10000
theorem asc_len : ∀ (l : List Nat) (m k : Nat), l.Pairwise (· < ·) → (∀ y ∈ l, k ≤ y ∧ y < m) → l.length ≤ m - k := by
  intro l m
  induction l with
  | nil => intro k _ _; simp
  | cons a l ih =>
    intro k hp hy
    have ha := hy a (by simp)
    have := ih (a + 1) (List.pairwise_cons.1 hp).2 fun y hyl => ⟨(List.pairwise_cons.1 hp).1 y hyl, (hy y (by simp [hyl])).2⟩
    simp
    omega
/-- A valid graph is small. -/
theorem gV_len {c : List Int} {g : List VxD} (h : gV c g = true) : g.length ≤ 217 := by
  have hc := com_out (gV_comV h)
  have hr : ∀ v ∈ g, (0 ≤ v.r ∧ v.r ≤ 30) ∧ 0 ≤ v.a ∧ v.a < 7 := fun v hv => by
    obtain ⟨i, hi⟩ := List.mem_iff_getElem?.1 hv
    have h1 := vx_out (gV_cell h hi).1
    omega
  have hp : (g.map fun v => (v.r * 7 + v.a).toNat).Pairwise (· < ·) := by
    rw [List.pairwise_map]
    refine List.Pairwise.imp_of_mem (fun {a b} ha hb hab => ?_) (pair_of_sorted (gV_sorted h))
    have h1 := hr a ha
    have h2 := hr b hb
    unfold VxD.lt at hab
    omega
  have := asc_len _ 217 0 hp fun y hy => by
    obtain ⟨v, hv, rfl⟩ := List.mem_map.1 hy
    have := hr v hv
    omega
  simpa using this
theorem rp_cmp {F : List Fam} {b : Nat} {g : List VxD} (h : hasG F b g) {j k : Nat} (hj : j < g.length) (hk : k < g.length) : rpCmp F (b + j) 0 0 (b + k) 0 0 (decide (j = k)) := by
  by_cases e : j = k
  · rw [decide_eq_true e]
    exact ⟨by omega, rfl, rfl⟩
  · rw [decide_eq_false e]
    have h1 := h j _ (List.getElem?_eq_getElem hj)
    have h2 := h k _ (List.getElem?_eq_getElem hk)
    exact ⟨_, _, 4, j, k, h1, h2, rfl, rfl, by omega⟩
theorem elem_pos {o : Option TI} {te : TI} (h : o = some ⟨te.kind, te.agg, te.size, te.bytes, te.zero, te.fields, te.elem, te.alen, te.ik⟩) (h2 : 0 < te.size := by decide) : ∃ te, o = some te ∧ 0 < te.size := ⟨te, h, h2⟩
theorem rprow_in {b : Nat} {l : List Nat} {n : Nat} {P : List AV → Prop} (h : ∀ j, l[n]? = some j → P [.rp (b + j) 0 0]) : ∀ e, (rpRows b l)[n]? = some e → P e := by
  intro e he
  rw [List.getElem?_map] at he
  obtain ⟨v, hv, rfl⟩ := Option.map_eq_some_iff.1 he
  exact h v hv
theorem rprow_use {b : Nat} {l : List Nat} {n j : Nat} {P : List AV → Prop} (hj : l[n]? = some j) (h : P [.rp (b + j) 0 0]) : ∀ e, (rpRows b l)[n]? = some e → P e :=
  rprow_in fun u hu => by
    rw [hj] at hu
    cases hu
    exact h
def idxN : List Nat → Nat → Int
  | [], _ => -1
  | x :: l, y => if x = y then 0 else if idxN l y = -1 then -1 else idxN l y + 1
theorem idxN_ge : ∀ {l : List Nat} {y : Nat}, -1 ≤ idxN l y
  | [], _ => by simp [idxN]
  | x :: l, y => by
    have := idxN_ge (l := l) (y := y)
    unfold idxN
    split
    · omega
    · split <;> omega
theorem idxN_mem : ∀ {l : List Nat} {y : Nat}, decide (0 ≤ idxN l y) = decide (y ∈ l)
  | [], _ => rfl
  | x :: l, y => by
    have ih := idxN_mem (l := l) (y := y)
    have hg := idxN_ge (l := l) (y := y)
    rw [decide_eq_decide] at ih
    rw [decide_eq_decide]
    unfold idxN
    by_cases e : x = y
    · rw [if_pos e]
      simp [e]
    · rw [if_neg e]
      have e2 : ¬ y = x := fun h => e h.symm
      simp only [List.mem_cons, e2, false_or]
      rw [← ih]
      split <;> omega
theorem idxN_some : ∀ {l : List Nat} {y i : Nat}, l[i]? = some y → (∀ j, j < i → l[j]? ≠ some y) → idxN l y = i
  | [], _, _, h, _ => by simp at h
  | x :: l, y, 0, h, _ => by
    simp at h
    unfold idxN
    rw [if_pos h]
    rfl
  | x :: l, y, i + 1, h, hn => by
    have h0 := hn 0 (by omega)
    have e : ¬ x = y := fun e => h0 (by simp [e])
    have ih := idxN_some (l := l) (y := y) (i := i) (by simpa using h) fun j hj => by simpa using hn (j + 1) (by omega)
    unfold idxN
    rw [if_neg e, ih, if_neg (by omega)]
    omega
theorem idxN_none : ∀ {l : List Nat} {y : Nat}, (∀ j, j < l.length → l[j]? ≠ some y) → idxN l y = -1
  | [], _, _ => rfl
  | x :: l, y, hn => by
    have h0 := hn 0 (by simp)
    have e : ¬ x = y := fun e => h0 (by simp [e])
    have ih := idxN_none (l := l) (y := y) fun j hj => by simpa using hn (j + 1) (by simpa using hj)
    unfold idxN
    rw [if_neg e, ih, if_pos rfl]
def c_node_Index : Con := ⟨0, 0, false, fun xs hs Fs K => match xs with
  | [.sl 1 rows, .rp f 0 0] => hs = [] ∧ ∃ b g l j, rows = rpRows b l ∧ f = b + j ∧ hasG Fs b g ∧ (∀ k ∈ l, k < g.length) ∧ j < g.length ∧ l.length < 2000000 ∧ K (I (idxN l j)) [] []
  | _ => False⟩
theorem k_slices_Index_node : Keeps' Tryz.prog 125 c_node_Index := by
  refine keeps_of_vc mix TyT_ok cok_nil Tryz.func125 rfl rfl rfl ?_
  intro aargs hs Fs K h
  simp only [c_node_Index] at h
  split at h
  case h_2 => exact h.elim
  rename_i rows f
  obtain ⟨rfl, b, g, l, j, rfl, rfl, hG, hl, hj, hll, h⟩ := h
  have no : ∀ {z : Int}, idxN l j = z → K (I z) [] [] := fun e => by rw [← e]; exact h
  have hG2 : hasG (Fs ++ ([] : List Fam)) b g := hasG_app hG
  have hlen : (rpRows b l).length = l.length := by simp
  repeat' (first|((conv=>whnf); (first|refine brK_dec (fun _=>?_) (fun _=>?_)|refine brK_ndec (fun _=>?_) (fun _=>?_)|refine brK_not (fun _=>?_) (fun _=>?_)|refine brK_in (fun _=>?_) (fun _=>?_)|refine And.intro (by first|exact rfl|exact ⟨_,rfl,rfl⟩|exact ⟨rfl,rfl,rfl⟩|exact of_decide_eq_true rfl|exact trivial|assumption|omega|(show (_ ≤ _ ∧ _ ≤ _); omega)|(simp; omega)|exact ⟨by first|omega|(simp; omega),_,rfl,rfl⟩) ?_|refine Quo.l (And.intro (by first|exact rfl|assumption|omega|(simp; omega)) ?_)|refine Quo.r (And.intro (by omega) ?_)|refine Both.mk ?_ ?_|refine Exists.intro _ (And.intro rfl ?_)|refine rprow_use (by assumption) ?_|refine rprow_in (fun _ _=>?_)|refine Exists.intro _ (And.intro (rp_cmp hG2 hj (hl _ (List.mem_of_getElem? (by assumption)))) ?_)|refine fun _=>?_))|exact rfl)
  refine loop_in (ι := Nat) (fun i => mkS 19 [(0, .sl 1 (rpRows b l)), (1, .rp (b + j) 0 0), (7, I (rpRows b l).length), (8, I i)] [] Fs) (fun i => i ≤ l.length ∧ ∀ k, k < i → l[k]? ≠ some j) (fun i => l.length - i) 0 [] ⟨Nat.zero_le _, by omega⟩ ?_ ?_
  · repeat' (first|((conv=>whnf); (first|refine brK_dec (fun _=>?_) (fun _=>?_)|refine brK_ndec (fun _=>?_) (fun _=>?_)|refine brK_not (fun _=>?_) (fun _=>?_)|refine brK_in (fun _=>?_) (fun _=>?_)|refine And.intro (by first|exact rfl|exact ⟨_,rfl,rfl⟩|exact ⟨rfl,rfl,rfl⟩|exact of_decide_eq_true rfl|exact trivial|assumption|omega|(show (_ ≤ _ ∧ _ ≤ _); omega)|(simp; omega)|exact ⟨by first|omega|(simp; omega),_,rfl,rfl⟩) ?_|refine Quo.l (And.intro (by first|exact rfl|assumption|omega|(simp; omega)) ?_)|refine Quo.r (And.intro (by omega) ?_)|refine Both.mk ?_ ?_|refine Exists.intro _ (And.intro rfl ?_)|refine rprow_use (by assumption) ?_|refine rprow_in (fun _ _=>?_)|refine Exists.intro _ (And.intro (rp_cmp hG2 hj (hl _ (List.mem_of_getElem? (by assumption)))) ?_)|refine fun _=>?_))|exact rfl)
  intro i ⟨hi, hall⟩
  repeat' (first|((conv=>whnf); (first|refine brK_dec (fun _=>?_) (fun _=>?_)|refine brK_ndec (fun _=>?_) (fun _=>?_)|refine brK_not (fun _=>?_) (fun _=>?_)|refine brK_in (fun _=>?_) (fun _=>?_)|refine And.intro (by first|exact rfl|exact (elem_pos rfl)|exact ⟨_,rfl,rfl⟩|exact ⟨rfl,rfl,rfl⟩|exact of_decide_eq_true rfl|exact trivial|assumption|omega|(show (_ ≤ _ ∧ _ ≤ _); omega)|(simp; omega)|exact ⟨by first|omega|(simp; omega),_,rfl,rfl⟩) ?_|refine Quo.l (And.intro (by first|exact rfl|exact (elem_pos rfl)|assumption|omega|(simp; omega)) ?_)|refine Quo.r (And.intro (by omega) ?_)|refine Both.mk ?_ ?_|refine Exists.intro _ (And.intro rfl ?_)|refine rprow_use (by assumption) ?_|refine rprow_in (fun _ _=>?_)|refine Exists.intro _ (And.intro (rp_cmp hG2 hj (hl _ (List.mem_of_getElem? (by assumption)))) ?_)|refine fun _=>?_))|exact rfl)
  · rename_i hil y hy e
    subst e
    exact no (idxN_some hy hall)
  · rename_i hil y hy e
    refine ⟨i + 1, [], ⟨by omega, fun k hk he => ?_⟩, by omega, ?_⟩
    · by_cases hki : k = i
      · subst hki
        have hy' : l[k]? = some y := hy
        rw [hy'] at he
        exact e (Option.some.inj he).symm
      · exact hall k (by omega) he
    repeat' (first|((conv=>whnf); (first|refine brK_dec (fun _=>?_) (fun _=>?_)|refine brK_ndec (fun _=>?_) (fun _=>?_)|refine brK_not (fun _=>?_) (fun _=>?_)|refine brK_in (fun _=>?_) (fun _=>?_)|refine And.intro (by first|exact rfl|exact ⟨_,rfl,rfl⟩|exact ⟨rfl,rfl,rfl⟩|exact of_decide_eq_true rfl|exact trivial|assumption|omega|(show (_ ≤ _ ∧ _ ≤ _); omega)|(simp; omega)|exact ⟨by first|omega|(simp; omega),_,rfl,rfl⟩) ?_|refine Quo.l (And.intro (by first|exact rfl|assumption|omega|(simp; omega)) ?_)|refine Quo.r (And.intro (by omega) ?_)|refine Both.mk ?_ ?_|refine Exists.intro _ (And.intro rfl ?_)|refine rprow_use (by assumption) ?_|refine rprow_in (fun _ _=>?_)|refine Exists.intro _ (And.intro (rp_cmp hG2 hj (hl _ (List.mem_of_getElem? (by assumption)))) ?_)|refine fun _=>?_))|exact rfl)
  · rename_i hil
    exact no (idxN_none fun k hk => hall k (by omega))
def c_node_Contains : Con := ⟨0, 0, false, fun xs hs Fs K => match xs with
  | [.sl 1 rows, .rp f 0 0] => hs = [] ∧ ∃ b g l j, rows = rpRows b l ∧ f = b + j ∧ hasG Fs b g ∧ (∀ k ∈ l, k < g.length) ∧ j < g.length ∧ l.length < 2000000 ∧ K (B (decide (j ∈ l))) [] []
  | _ => False⟩
theorem k_slices_Contains_node : Keeps' Tryz.prog 119 c_node_Contains := by
  refine keeps_of_vc mix TyT_ok (cok_cons k_slices_Index_node Tryz.func125 rfl rfl cok_nil) Tryz.func119 rfl rfl rfl ?_
  intro aargs hs Fs K h
  simp only [c_node_Contains] at h
  split at h
  case h_2 => exact h.elim
  rename_i rows f
  obtain ⟨rfl, b, g, l, j, rfl, rfl, hG, hl, hj, hll, h⟩ := h
  have hG2 : hasG (Fs ++ ([] : List Fam)) b g := hasG_app hG
  repeat' (first|((conv=>whnf); (first|refine Exists.intro b (Exists.intro g (Exists.intro l (Exists.intro j (And.intro rfl ?_))))|refine brK_dec (fun _=>?_) (fun _=>?_)|refine brK_ndec (fun _=>?_) (fun _=>?_)|refine brK_not (fun _=>?_) (fun _=>?_)|refine brK_in (fun _=>?_) (fun _=>?_)|refine And.intro (by first|exact rfl|exact ⟨_,rfl,rfl⟩|exact ⟨rfl,rfl,rfl⟩|exact of_decide_eq_true rfl|exact trivial|assumption|omega|(show (_ ≤ _ ∧ _ ≤ _); omega)|(simp; omega)|exact ⟨by first|omega|(simp; omega),_,rfl,rfl⟩) ?_|refine Quo.l (And.intro (by first|exact rfl|assumption|omega|(simp; omega)) ?_)|refine Quo.r (And.intro (by omega) ?_)|refine Both.mk ?_ ?_|refine Exists.intro _ (And.intro rfl ?_)|refine Exists.intro b (Exists.intro g (Exists.intro l (Exists.intro j (And.intro rfl ?_))))|refine fun _=>?_))|exact rfl)
  show K (B _) [] []
  rw [idxN_mem]; exact h
def c_isNaN : Con := ⟨0, 0, false, fun xs hs _ K => match xs with
  | [.val (.int .i64 _)] => hs = [] ∧ K (B false) [] []
  | _ => False⟩
theorem k_cmp_isNaN_int : Keeps' Tryz.prog 126 c_isNaN := by
  refine keeps_of_vc mix TyT_ok cok_nil Tryz.func126 rfl rfl rfl ?_
  intro aargs hs Fs K h
  simp only [c_isNaN] at h
  split at h
  case h_2 => exact h.elim
  rename_i x
  obtain ⟨rfl, h⟩ := h
  repeat' (first|((conv=>whnf); (first|refine brK_dec (fun _=>?_) (fun _=>?_)|refine brK_ndec (fun _=>?_) (fun _=>?_)|refine brK_not (fun _=>?_) (fun _=>?_)|refine brK_in (fun _=>?_) (fun _=>?_)|refine And.intro (by first|exact rfl|exact ⟨_,rfl,rfl⟩|exact ⟨rfl,rfl,rfl⟩|exact of_decide_eq_true rfl|exact trivial|assumption|omega|(show (_ ≤ _ ∧ _ ≤ _); omega)|(simp; omega)|exact ⟨by first|omega|(simp; omega),_,rfl,rfl⟩) ?_|refine Quo.l (And.intro (by first|exact rfl|assumption|omega|(simp; omega)) ?_)|refine Quo.r (And.intro (by omega) ?_)|refine Both.mk ?_ ?_|refine Exists.intro _ (And.intro rfl ?_)|refine opt_use (by assumption) ?_|refine fun _=>?_))|exact rfl)
  show K (B (!decide (x = x))) [] []
  simpa using h
theorem k_slices_isNaN : Keeps' Tryz.prog 123 c_isNaN := by
  refine keeps_of_vc mix TyT_ok cok_nil Tryz.func123 rfl rfl rfl ?_
  intro aargs hs Fs K h
  simp only [c_isNaN] at h
  split at h
  case h_2 => exact h.elim
  rename_i x
  obtain ⟨rfl, h⟩ := h
  repeat' (first|((conv=>whnf); (first|refine brK_dec (fun _=>?_) (fun _=>?_)|refine brK_ndec (fun _=>?_) (fun _=>?_)|refine brK_not (fun _=>?_) (fun _=>?_)|refine brK_in (fun _=>?_) (fun _=>?_)|refine And.intro (by first|exact rfl|exact ⟨_,rfl,rfl⟩|exact ⟨rfl,rfl,rfl⟩|exact of_decide_eq_true rfl|exact trivial|assumption|omega|(show (_ ≤ _ ∧ _ ≤ _); omega)|(simp; omega)|exact ⟨by first|omega|(simp; omega),_,rfl,rfl⟩) ?_|refine Quo.l (And.intro (by first|exact rfl|assumption|omega|(simp; omega)) ?_)|refine Quo.r (And.intro (by omega) ?_)|refine Both.mk ?_ ?_|refine Exists.intro _ (And.intro rfl ?_)|refine opt_use (by assumption) ?_|refine fun _=>?_))|exact rfl)
  show K (B (!decide (x = x))) [] []
  simpa using h
def c_cmp_Less : Con := ⟨0, 0, false, fun xs hs _ K => match xs with
  | [.val (.int .i64 x), .val (.int .i64 y)] => hs = [] ∧ K (B (decide (x < y))) [] []
  | _ => False⟩
theorem k_cmp_Less_int : Keeps' Tryz.prog 122 c_cmp_Less := by
  refine keeps_of_vc mix TyT_ok (cok_cons k_cmp_isNaN_int Tryz.func126 rfl rfl cok_nil) Tryz.func122 rfl rfl rfl ?_
  intro aargs hs Fs K h
  simp only [c_cmp_Less] at h
  split at h
  case h_2 => exact h.elim
  rename_i x y
  obtain ⟨rfl, h⟩ := h
  repeat' (first|((conv=>whnf); (first|refine brK_dec (fun _=>?_) (fun _=>?_)|refine brK_ndec (fun _=>?_) (fun _=>?_)|refine brK_not (fun _=>?_) (fun _=>?_)|refine brK_in (fun _=>?_) (fun _=>?_)|refine And.intro (by first|exact rfl|exact ⟨_,rfl,rfl⟩|exact ⟨rfl,rfl,rfl⟩|exact of_decide_eq_true rfl|exact trivial|assumption|omega|(show (_ ≤ _ ∧ _ ≤ _); omega)|(simp; omega)|exact ⟨by first|omega|(simp; omega),_,rfl,rfl⟩) ?_|refine Quo.l (And.intro (by first|exact rfl|assumption|omega|(simp; omega)) ?_)|refine Quo.r (And.intro (by omega) ?_)|refine Both.mk ?_ ?_|refine Exists.intro _ (And.intro rfl ?_)|refine opt_use (by assumption) ?_|refine fun _=>?_))|exact rfl)
  exact h
def c_slices_BinarySearch : Con := ⟨0, 0, false, fun xs hs _ K => match xs with
  | [.ints l, .val (.int .i64 x)] => hs = [] ∧ l.Pairwise (· ≤ ·) ∧ l.length < 2000000 ∧ ∀ p, K (.tup [I p, B (decide (x ∈ l))]) [] []
  | _ => False⟩
theorem srch_mid {i j n : Nat} (hij : i < j) (_ : j ≤ n) : ((i : Int) + j) / 2 = ((i + j) / 2 : Nat) ∧ i ≤ (i + j) / 2 ∧ (i + j) / 2 < j := by omega
theorem srt_get {l : List Int} (h : l.Pairwise (· ≤ ·)) {i j : Nat} {x y : Int} (hij : i ≤ j) (hx : l[i]? = some x) (hy : l[j]? = some y) : x ≤ y := by
  rcases Nat.lt_or_ge i j with h1 | h1
  · obtain ⟨h2, rfl⟩ := List.getElem?_eq_some_iff.1 hx
    obtain ⟨h3, rfl⟩ := List.getElem?_eq_some_iff.1 hy
    exact List.pairwise_iff_getElem.1 h i j h2 h3 h1
  · obtain rfl : i = j := by omega
    rw [hx] at hy
    cases hy
    omega
theorem k_slices_BinarySearch : Keeps' Tryz.prog 111 c_slices_BinarySearch := by
  refine keeps_of_vc mix TyT_ok (cok_cons k_cmp_Less_int Tryz.func122 rfl rfl (cok_cons k_slices_isNaN Tryz.func123 rfl rfl cok_nil)) Tryz.func111 rfl rfl rfl ?_
  intro aargs hs Fs K h
  simp only [c_slices_BinarySearch] at h
  split at h
  case h_2 => exact h.elim
  rename_i l x
  obtain ⟨rfl, hs, hl, h⟩ := h
  repeat' (first|((conv=>whnf); (first|refine brK_dec (fun _=>?_) (fun _=>?_)|refine brK_ndec (fun _=>?_) (fun _=>?_)|refine brK_not (fun _=>?_) (fun _=>?_)|refine brK_in (fun _=>?_) (fun _=>?_)|refine And.intro (by first|exact rfl|exact ⟨_,rfl,rfl⟩|exact ⟨rfl,rfl,rfl⟩|exact of_decide_eq_true rfl|exact trivial|assumption|omega|(show (_ ≤ _ ∧ _ ≤ _); omega)|(simp; omega)|exact ⟨by first|omega|(simp; omega),_,rfl,rfl⟩) ?_|refine Quo.l (And.intro (by first|exact rfl|assumption|omega|(simp; omega)) ?_)|refine Quo.r (And.intro (by omega) ?_)|refine Both.mk ?_ ?_|refine Exists.intro _ (And.intro rfl ?_)|refine opt_use (by assumption) ?_|refine fun _=>?_))|exact rfl)
  refine loop_in (ι := Nat × Nat) (fun q => mkS 54 [(0, .ints l), (1, I x), (4, I 0), (5, B false), (6, I l.length), (7, I q.1), (8, I q.2)] [] Fs)
    (fun q => q.1 ≤ q.2 ∧ q.2 ≤ l.length ∧ (∀ (k : Nat) y, k < q.1 → l[k]? = some y → y < x) ∧ ∀ (k : Nat) y, q.2 ≤ k → l[k]? = some y → x ≤ y) (fun q => q.2 - q.1) (0, l.length) [] ⟨Nat.zero_le _, Nat.le_refl _, by omega, fun k y hk hy => ?_⟩ ?_ ?_
  · have := (List.getElem?_eq_some_iff.1 hy).1
    dsimp only at hk
    omega
  · repeat' (first|((conv=>whnf); (first|refine brK_dec (fun _=>?_) (fun _=>?_)|refine brK_ndec (fun _=>?_) (fun _=>?_)|refine brK_not (fun _=>?_) (fun _=>?_)|refine brK_in (fun _=>?_) (fun _=>?_)|refine And.intro (by first|exact rfl|exact ⟨_,rfl,rfl⟩|exact ⟨rfl,rfl,rfl⟩|exact of_decide_eq_true rfl|exact trivial|assumption|omega|(show (_ ≤ _ ∧ _ ≤ _); omega)|(simp; omega)|exact ⟨by first|omega|(simp; omega),_,rfl,rfl⟩) ?_|refine Quo.l (And.intro (by first|exact rfl|assumption|omega|(simp; omega)) ?_)|refine Quo.r (And.intro (by omega) ?_)|refine Both.mk ?_ ?_|refine Exists.intro _ (And.intro rfl ?_)|refine opt_use (by assumption) ?_|refine fun _=>?_))|exact rfl)
  rintro ⟨i, j⟩ ⟨h1, h2, h3, h4⟩
  dsimp only at h1 h2 h3 h4 ⊢
  repeat' (first|((conv=>whnf); (first|refine brK_dec (fun _=>?_) (fun _=>?_)|refine brK_ndec (fun _=>?_) (fun _=>?_)|refine brK_not (fun _=>?_) (fun _=>?_)|refine brK_in (fun _=>?_) (fun _=>?_)|refine And.intro (by first|exact rfl|exact (by first|omega|(show (0 ≤ _ ∧ _ ≤ (18446744073709551615 : Int)); omega)|decide)|exact ⟨_,rfl,rfl⟩|exact ⟨rfl,rfl,rfl⟩|exact of_decide_eq_true rfl|exact trivial|assumption|omega|(show (_ ≤ _ ∧ _ ≤ _); omega)|(simp; omega)|exact ⟨by first|omega|(simp; omega),_,rfl,rfl⟩) ?_|refine Quo.l (And.intro (by first|exact rfl|exact (by first|omega|(show (0 ≤ _ ∧ _ ≤ (18446744073709551615 : Int)); omega)|decide)|assumption|omega|(simp; omega)) ?_)|refine Quo.r (And.intro (by omega) ?_)|refine Both.mk ?_ ?_|refine Exists.intro _ (And.intro rfl ?_)|refine opt_use (by assumption) ?_|refine fun _=>?_))|exact rfl)
  · rename_i hij y hy hlt
    obtain ⟨m1, m2, m3⟩ := srch_mid (i := i) (j := j) (n := l.length) (by omega) h2
    rw [m1] at hy
    have hy : l[(i + j) / 2]? = some y := hy
    refine ⟨((i + j) / 2 + 1, j), [], ⟨by dsimp only; omega, h2, fun k z hk hz => ?_, h4⟩, by dsimp only; omega, ?_⟩
    · have := srt_get hs (i := k) (j := (i + j) / 2) (by dsimp only at hk; omega) hz hy
      omega
    repeat' (first|((conv=>whnf); (first|refine brK_dec (fun _=>?_) (fun _=>?_)|refine brK_ndec (fun _=>?_) (fun _=>?_)|refine brK_not (fun _=>?_) (fun _=>?_)|refine brK_in (fun _=>?_) (fun _=>?_)|refine And.intro (by first|exact rfl|exact (by rw [m1]; rfl)|exact ⟨_,rfl,rfl⟩|exact ⟨rfl,rfl,rfl⟩|exact of_decide_eq_true rfl|exact trivial|assumption|omega|(show (_ ≤ _ ∧ _ ≤ _); omega)|(simp; omega)|exact ⟨by first|omega|(simp; omega),_,rfl,rfl⟩) ?_|refine Quo.l (And.intro (by first|exact rfl|exact (by rw [m1]; rfl)|assumption|omega|(simp; omega)) ?_)|refine Quo.r (And.intro (by omega) ?_)|refine Both.mk ?_ ?_|refine Exists.intro _ (And.intro rfl ?_)|refine opt_use (by assumption) ?_|refine fun _=>?_))|exact rfl)
  · rename_i hij y hy hlt
    obtain ⟨m1, m2, m3⟩ := srch_mid (i := i) (j := j) (n := l.length) (by omega) h2
    rw [m1] at hy
    have hy : l[(i + j) / 2]? = some y := hy
    refine ⟨(i, (i + j) / 2), [], ⟨by dsimp only; omega, by dsimp only; omega, h3, fun k z hk hz => ?_⟩, by dsimp only; omega, ?_⟩
    · have := srt_get hs (i := (i + j) / 2) (j := k) hk hy hz
      omega
    repeat' (first|((conv=>whnf); (first|refine brK_dec (fun _=>?_) (fun _=>?_)|refine brK_ndec (fun _=>?_) (fun _=>?_)|refine brK_not (fun _=>?_) (fun _=>?_)|refine brK_in (fun _=>?_) (fun _=>?_)|refine And.intro (by first|exact rfl|exact (by rw [m1])|exact ⟨_,rfl,rfl⟩|exact ⟨rfl,rfl,rfl⟩|exact of_decide_eq_true rfl|exact trivial|assumption|omega|(show (_ ≤ _ ∧ _ ≤ _); omega)|(simp; omega)|exact ⟨by first|omega|(simp; omega),_,rfl,rfl⟩) ?_|refine Quo.l (And.intro (by first|exact rfl|exact (by rw [m1])|assumption|omega|(simp; omega)) ?_)|refine Quo.r (And.intro (by omega) ?_)|refine Both.mk ?_ ?_|refine Exists.intro _ (And.intro rfl ?_)|refine opt_use (by assumption) ?_|refine fun _=>?_))|exact rfl)
  · rename_i hij hil y hy e
    have hy : l[i]? = some y := hy
    have := h i
    rw [decide_eq_true (show x ∈ l from e ▸ List.mem_of_getElem? hy)] at this
    exact this
  · rename_i hij hil y hy e
    have hy : l[i]? = some y := hy
    have := h i
    have hn : ¬ x ∈ l := by
      intro hm
      obtain ⟨k, hk⟩ := List.mem_iff_getElem?.1 hm
      rcases Nat.lt_or_ge k i with h5 | h5
      · have := h3 k x h5 hk
        omega
      · have h6 := srt_get hs (i := i) (j := k) h5 hy hk
        have h7 := h4 i y (by omega) hy
        omega
    rw [decide_eq_false hn] at this
    exact this
  · rename_i hij hil
    have := h i
    have hn : ¬ x ∈ l := by
      intro hm
      obtain ⟨k, hk⟩ := List.mem_iff_getElem?.1 hm
      have := (List.getElem?_eq_some_iff.1 hk).1
      have := h3 k x (by omega) hk
      omega
    rw [decide_eq_false hn] at this
    exact this
def c_impl_LeadersValid : Con := ⟨0, 0, false, fun xs hs _ K => match xs with
  | [.ints c, .ints L] => hs = [] ∧ c.length < 2000000 ∧ L.length < 2000000 ∧ K (B (comV c && leadersV c L)) [] []
  | _ => False⟩
theorem k_impl_LeadersValid : Keeps' Tryz.prog 40 c_impl_LeadersValid := by
  refine keeps_of_vc mix TyT_ok (cok_cons k_impl_CommitteeValid Tryz.func69 rfl rfl (cok_cons k_impl_committee_has Tryz.func70 rfl rfl cok_nil)) Tryz.func40 rfl rfl rfl ?_
  intro aargs hs Fs K h
  simp only [c_impl_LeadersValid] at h
  split at h
  case h_2 => exact h.elim
  rename_i c L
  obtain ⟨rfl, hc, hL, h⟩ := h
  have no : ∀ {b : Bool}, (comV c && leadersV c L) = b → K (B b) [] [] := fun e => by rw [← e]; exact h
  repeat' (first|((conv=>whnf); (first|refine brK_dec (fun _=>?_) (fun _=>?_)|refine brK_ndec (fun _=>?_) (fun _=>?_)|refine brK_not (fun _=>?_) (fun _=>?_)|refine brK_in (fun _=>?_) (fun _=>?_)|refine And.intro (by first|exact rfl|exact ⟨_,rfl,rfl⟩|exact ⟨rfl,rfl,rfl⟩|exact of_decide_eq_true rfl|exact trivial|assumption|omega|(show (_ ≤ _ ∧ _ ≤ _); omega)|(simp; omega)|exact ⟨by first|omega|(simp; omega),_,rfl,rfl⟩) ?_|refine Quo.l (And.intro (by first|exact rfl|assumption|omega|(simp; omega)) ?_)|refine Quo.r (And.intro (by omega) ?_)|refine Both.mk ?_ ?_|refine Exists.intro _ (And.intro rfl ?_)|refine opt_use (by assumption) ?_|refine fun _=>?_))|exact rfl)
  · refine no ?_
    simp_all
  · rename_i h1 h2
    refine no ?_
    have : decide (L.length ≤ 15) = false := decide_eq_false (by omega)
    rw [leadersV, this]
    simp
  rename_i hcv h15
  refine loop_in (ι := Nat) (fun i => mkS 26 [(0, .ints c), (1, .ints L), (4, B false), (15, .ints L), (16, I L.length), (17, I i)] [] Fs) (fun i => i ≤ L.length ∧ ∀ (k : Nat) x, k < i → L[k]? = some x → inR x 0 ((c.length : Int) - 1) = true) (fun i => L.length - i) 0 [] ⟨Nat.zero_le _, fun j x hj => absurd hj (by omega)⟩ ?_ ?_
  · repeat' (first|((conv=>whnf); (first|refine brK_dec (fun _=>?_) (fun _=>?_)|refine brK_ndec (fun _=>?_) (fun _=>?_)|refine brK_not (fun _=>?_) (fun _=>?_)|refine brK_in (fun _=>?_) (fun _=>?_)|refine And.intro (by first|exact rfl|exact ⟨_,rfl,rfl⟩|exact ⟨rfl,rfl,rfl⟩|exact of_decide_eq_true rfl|exact trivial|assumption|omega|(show (_ ≤ _ ∧ _ ≤ _); omega)|(simp; omega)|exact ⟨by first|omega|(simp; omega),_,rfl,rfl⟩) ?_|refine Quo.l (And.intro (by first|exact rfl|assumption|omega|(simp; omega)) ?_)|refine Quo.r (And.intro (by omega) ?_)|refine Both.mk ?_ ?_|refine Exists.intro _ (And.intro rfl ?_)|refine opt_use (by assumption) ?_|refine fun _=>?_))|exact rfl)
  intro i ⟨hi, hall⟩
  repeat' (first|((conv=>whnf); (first|refine brK_dec (fun _=>?_) (fun _=>?_)|refine brK_ndec (fun _=>?_) (fun _=>?_)|refine brK_not (fun _=>?_) (fun _=>?_)|refine brK_in (fun _=>?_) (fun _=>?_)|refine And.intro (by first|exact rfl|exact ⟨_,rfl,rfl⟩|exact ⟨rfl,rfl,rfl⟩|exact of_decide_eq_true rfl|exact trivial|assumption|omega|(show (_ ≤ _ ∧ _ ≤ _); omega)|(simp; omega)|exact ⟨by first|omega|(simp; omega),_,rfl,rfl⟩) ?_|refine Quo.l (And.intro (by first|exact rfl|assumption|omega|(simp; omega)) ?_)|refine Quo.r (And.intro (by omega) ?_)|refine Both.mk ?_ ?_|refine Exists.intro _ (And.intro rfl ?_)|refine opt_use (by assumption) ?_|refine fun _=>?_))|exact rfl)
  · rename_i h0 x hx e
    have hx : L[i]? = some x := hx
    refine no ?_
    have : L.all (fun x => inR x 0 ((c.length : Int) - 1)) = false := by
      rw [List.all_eq_false]
      exact ⟨x, List.mem_of_getElem? hx, by rw [e]; simp⟩
    rw [leadersV, this, Bool.false_and, Bool.and_false]
  · rename_i h0 x hx e
    have hx : L[i]? = some x := hx
    refine ⟨i + 1, [], ⟨by omega, fun j y hj hy => ?_⟩, by omega, ?_⟩
    · rcases Nat.lt_or_ge j i with h1 | h1
      · exact hall j y h1 hy
      · obtain rfl : j = i := by omega
        rw [hx] at hy
        cases hy
        exact e
    repeat' (first|((conv=>whnf); (first|refine brK_dec (fun _=>?_) (fun _=>?_)|refine brK_ndec (fun _=>?_) (fun _=>?_)|refine brK_not (fun _=>?_) (fun _=>?_)|refine brK_in (fun _=>?_) (fun _=>?_)|refine And.intro (by first|exact rfl|exact ⟨_,rfl,rfl⟩|exact ⟨rfl,rfl,rfl⟩|exact of_decide_eq_true rfl|exact trivial|assumption|omega|(show (_ ≤ _ ∧ _ ≤ _); omega)|(simp; omega)|exact ⟨by first|omega|(simp; omega),_,rfl,rfl⟩) ?_|refine Quo.l (And.intro (by first|exact rfl|assumption|omega|(simp; omega)) ?_)|refine Quo.r (And.intro (by omega) ?_)|refine Both.mk ?_ ?_|refine Exists.intro _ (And.intro rfl ?_)|refine opt_use (by assumption) ?_|refine fun _=>?_))|exact rfl)
  · rename_i h0
    refine no ?_
    have : L.all (fun x => inR x 0 ((c.length : Int) - 1)) = true := by
      rw [List.all_eq_true]
      intro x hx
      obtain ⟨k, hk⟩ := List.mem_iff_getElem?.1 hx
      exact hall k x (by have := (List.getElem?_eq_some_iff.1 hk).1; omega) hk
    have h3 : decide (L.length ≤ 15) = true := decide_eq_true (by omega)
    rw [leadersV, this, hcv, h3]
    rfl
theorem k_impl_committee_support : Keeps' Tryz.prog 109 c_spec_l1Support := by
  refine keeps_of_vc mix TyT_ok (cok_cons k_impl_committee_total Tryz.func88 rfl rfl cok_nil) Tryz.func109 rfl rfl rfl ?_
  intro aargs hs Fs K h
  simp only [c_spec_l1Support] at h
  split at h
  case h_2 => exact h.elim
  rename_i c
  obtain ⟨rfl, hc, h⟩ := h
  obtain ⟨h1, h2, h3⟩ := com_out hc
  have h4 := sup_rng hc
  have h5 := sum_bound c h3
  have hl : c.length < 2000 := by omega
  repeat' (first|((conv=>whnf); (first|refine brK_dec (fun _=>?_) (fun _=>?_)|refine brK_ndec (fun _=>?_) (fun _=>?_)|refine brK_not (fun _=>?_) (fun _=>?_)|refine brK_in (fun _=>?_) (fun _=>?_)|refine And.intro (by first|exact rfl|exact ⟨_,rfl,rfl⟩|exact ⟨rfl,rfl,rfl⟩|exact of_decide_eq_true rfl|exact trivial|assumption|omega|(show (_ ≤ _ ∧ _ ≤ _); omega)|(simp; omega)|exact ⟨by first|omega|(simp; omega),_,rfl,rfl⟩) ?_|refine Quo.l (And.intro (by first|exact rfl|assumption|omega|(simp; omega)) ?_)|refine Quo.r (And.intro (by omega) ?_)|refine Both.mk ?_ ?_|refine Exists.intro _ (And.intro rfl ?_)|refine opt_use (by assumption) ?_|refine fun _=>?_))|exact rfl)
  exact h
end Go.Proofs.YtkabnbjlglippaaGreatDoor
