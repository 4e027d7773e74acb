/-
The laws' own functions on slices of links: sizes, copies, comparisons.
No conditions.
-/
import Derived.Test.YtdljacpmoaeepaaDoorLxA
import Derived.Test.YtdljacpmoaeepaaDoorChP
namespace Go.Proofs.YtdljacpmoaeepaaDoor
open Go Go.Vc
set_option maxHeartbeats 2000000
set_option maxRecDepth 10000
def LkD.big (x : LkD) : Prop := x.e.c.length ≤ 9223372036854775807 ∧ x.e.k.length ≤ 9223372036854775807 ∧ x.s.length ≤ 9223372036854775807
def LkD.mid (x : LkD) : Prop := x.e.c.length ≤ 1048576 ∧ x.e.k.length ≤ 1048576 ∧ x.s.length ≤ 1048576
theorem LkD.mid_small {x : LkD} (h : x.mid) : x.small := ⟨⟨by have := h.1; omega, by have := h.2.1; omega⟩, by have := h.2.2; omega⟩
theorem lks_at {ls : List LkD} {i : Nat} {e : List AV} (h : (ls.map LkD.row)[i]? = some e) : ∃ x, ls[i]? = some x ∧ e = LkD.row x := by
  rw [List.getElem?_map] at h
  obtain ⟨x, hx, rfl⟩ := Option.map_eq_some_iff.1 h
  exact ⟨x, hx, rfl⟩
theorem mem_take_one {ls : List LkD} {i : Nat} {x : LkD} {p : LkD → Prop} (h : ∀ y ∈ ls.take i, p y) (hx : ls[i]? = some x) (hp : p x) : ∀ y ∈ ls.take (i + 1), p y := by
  intro y hy
  rw [List.take_add_one, hx] at hy
  rcases List.mem_append.1 hy with hy | hy
  · exact h y hy
  · simp at hy
    rw [hy]; exact hp
def c_laws_szLinkS : Con := ⟨0, 0, false, fun xs hs _ K => match xs with
  | [.sl 7 rows, .val (.int .i64 n)] => hs = [] ∧ ∃ ls : List LkD, rows = ls.map LkD.row ∧ (∀ x ∈ ls, x.big) ∧ ls.length ≤ 9223372036854775807 ∧ 0 ≤ n ∧ n ≤ 1048576 ∧
    ∀ v, v ≤ n → (0 ≤ v → ls.length ≤ 1048576 ∧ ∀ x ∈ ls, x.mid) → K (I v) [] []
  | _ => False⟩
theorem k_laws_szLinkS : Keeps' Tryd.prog 5 c_laws_szLinkS := by
  refine keeps_of_vc mix TyT_ok (cok_cons k_laws_szLink Tryd.func16 rfl rfl cok_nil) Tryd.func5 rfl rfl rfl ?_
  intro aargs hs Fs K h
  simp only [c_laws_szLinkS] at h
  split at h
  case h_2 => exact h.elim
  rename_i rows n
  obtain ⟨rfl, ls, rfl, hbig, hl, h0, h1, h⟩ := h
  have hlen : (ls.map LkD.row).length = ls.length := by simp
  repeat' (first|((conv=>whnf); (first|refine brK_dec (fun _=>?_) (fun _=>?_)|refine brK_ndec (fun _=>?_) (fun _=>?_)|refine brK_not (fun _=>?_) (fun _=>?_)|refine brK_in (fun _=>?_) (fun _=>?_)|refine And.intro (by first|exact rfl|exact ⟨_,rfl,rfl⟩|exact ⟨rfl,rfl,rfl⟩|exact of_decide_eq_true rfl|exact trivial|assumption|omega|(show (_ ≤ _ ∧ _ ≤ _); omega)|(simp; omega)|exact ⟨by first|omega|(simp; omega),_,rfl,rfl⟩) ?_|refine Quo.l (And.intro (by first|exact rfl|assumption|omega|(simp; omega)) ?_)|refine Quo.r (And.intro (by omega) ?_)|refine Both.mk ?_ ?_|refine Exists.intro _ (And.intro rfl ?_)|refine fun _=>?_))|exact rfl)
  · exact h _ (by omega) (by omega)
  rename_i hn
  refine loop_in (ι := Nat × Int) (fun g => mkS 27 [(0, .sl 7 (ls.map LkD.row)), (1, I g.2), (4, I 0), (5, I g.1)] [] Fs) (fun g => g.1 ≤ ls.length ∧ 0 ≤ g.2 ∧ g.2 ≤ n ∧ ∀ x ∈ ls.take g.1, x.mid) (fun g => ls.length - g.1) (0, n - (ls.map LkD.row).length) [] ⟨Nat.zero_le _, by dsimp only; omega, by dsimp only; omega, by simp⟩ ?_ ?_
  · repeat' (first|((conv=>whnf); (first|refine brK_dec (fun _=>?_) (fun _=>?_)|refine brK_ndec (fun _=>?_) (fun _=>?_)|refine brK_not (fun _=>?_) (fun _=>?_)|refine brK_in (fun _=>?_) (fun _=>?_)|refine And.intro (by first|exact rfl|exact ⟨_,rfl,rfl⟩|exact ⟨rfl,rfl,rfl⟩|exact of_decide_eq_true rfl|exact trivial|assumption|omega|(show (_ ≤ _ ∧ _ ≤ _); omega)|(simp; omega)|exact ⟨by first|omega|(simp; omega),_,rfl,rfl⟩) ?_|refine Quo.l (And.intro (by first|exact rfl|assumption|omega|(simp; omega)) ?_)|refine Quo.r (And.intro (by omega) ?_)|refine Both.mk ?_ ?_|refine Exists.intro _ (And.intro rfl ?_)|refine fun _=>?_))|exact rfl)
  rintro ⟨i, q⟩ ⟨hi, hq0, hq1, hall⟩
  dsimp only at hi hq0 hq1 hall ⊢
  repeat' (first|((conv=>whnf); (first|refine brK_dec (fun _=>?_) (fun _=>?_)|refine brK_ndec (fun _=>?_) (fun _=>?_)|refine brK_not (fun _=>?_) (fun _=>?_)|refine brK_in (fun _=>?_) (fun _=>?_)|refine And.intro (by first|exact rfl|exact ⟨_,rfl,rfl⟩|exact ⟨rfl,rfl,rfl⟩|exact of_decide_eq_true rfl|exact trivial|assumption|omega|(show (_ ≤ _ ∧ _ ≤ _); omega)|(simp; omega)|exact ⟨by first|omega|(simp; omega),_,rfl,rfl⟩) ?_|refine Quo.l (And.intro (by first|exact rfl|assumption|omega|(simp; omega)) ?_)|refine Quo.r (And.intro (by omega) ?_)|refine Both.mk ?_ ?_|refine Exists.intro _ (And.intro rfl ?_)|refine fun _=>?_))|exact rfl)
  · rename_i hil e he
    obtain ⟨x, hx, rfl⟩ := lks_at he
    have hx : ls[i]? = some x := hx
    obtain ⟨b1, b2, b3⟩ := hbig x (List.mem_of_getElem? hx)
    repeat' (first|((conv=>whnf); (first|refine brK_dec (fun _=>?_) (fun _=>?_)|refine brK_ndec (fun _=>?_) (fun _=>?_)|refine brK_not (fun _=>?_) (fun _=>?_)|refine brK_in (fun _=>?_) (fun _=>?_)|refine And.intro (by first|exact rfl|exact ⟨_,rfl,rfl⟩|exact ⟨rfl,rfl,rfl⟩|exact of_decide_eq_true rfl|exact trivial|assumption|omega|(show (_ ≤ _ ∧ _ ≤ _); omega)|(simp; omega)|exact ⟨by first|omega|(simp; omega),_,rfl,rfl⟩) ?_|refine Quo.l (And.intro (by first|exact rfl|assumption|omega|(simp; omega)) ?_)|refine Quo.r (And.intro (by omega) ?_)|refine Both.mk ?_ ?_|refine Exists.intro _ (And.intro rfl ?_)|refine fun _=>?_))|exact rfl)
    · exact h _ (by omega) (by omega)
    · rename_i hz
      have hle := szL_le (by omega) hz
      refine ⟨(i + 1, szL x.e.c x.e.k x.s q), [], ⟨by dsimp only; omega, by dsimp only; omega, by dsimp only; omega, mem_take_one hall hx ⟨hle.1, hle.2.1, hle.2.2.1⟩⟩, by dsimp only; omega, ?_⟩
      repeat' (first|((conv=>whnf); (first|refine brK_dec (fun _=>?_) (fun _=>?_)|refine brK_ndec (fun _=>?_) (fun _=>?_)|refine brK_not (fun _=>?_) (fun _=>?_)|refine brK_in (fun _=>?_) (fun _=>?_)|refine And.intro (by first|exact rfl|exact ⟨_,rfl,rfl⟩|exact ⟨rfl,rfl,rfl⟩|exact of_decide_eq_true rfl|exact trivial|assumption|omega|(show (_ ≤ _ ∧ _ ≤ _); omega)|(simp; omega)|exact ⟨by first|omega|(simp; omega),_,rfl,rfl⟩) ?_|refine Quo.l (And.intro (by first|exact rfl|assumption|omega|(simp; omega)) ?_)|refine Quo.r (And.intro (by omega) ?_)|refine Both.mk ?_ ?_|refine Exists.intro _ (And.intro rfl ?_)|refine fun _=>?_))|exact rfl)
  · rename_i hil
    rw [List.take_of_length_le (by omega)] at hall
    exact h _ hq1 (fun _ => ⟨by omega, hall⟩)
def zrow : List AV := [I 0, .val (.slice none 0 0), .val (.slice none 0 0), I 0, I 0, .val (.slice none 0 0), I 0]
def rowsTo (ls : List LkD) (i : Nat) : List (List AV) := (ls.take i).map LkD.row ++ List.replicate (ls.length - i) zrow
theorem rows_at {ls : List LkD} {i : Nat} {e : List AV} (hi : i < ls.length) (h : (rowsTo ls i)[i]? = some e) : e = zrow := by
  unfold rowsTo at h
  have e1 : ((ls.take i).map LkD.row).length = i := by simp; omega
  rw [List.getElem?_append_right (by omega), e1, Nat.sub_self, List.getElem?_replicate] at h
  split at h
  · exact (Option.some.inj h).symm
  · cases h
theorem rows_set {ls : List LkD} {i : Nat} {x : LkD} (hx : ls[i]? = some x) : (rowsTo ls i).set i x.row = rowsTo ls (i + 1) := by
  obtain ⟨hi, _⟩ := List.getElem?_eq_some_iff.1 hx
  have e : ls.length - i = (ls.length - (i + 1)) + 1 := by omega
  have e1 : ((ls.take i).map LkD.row).length = i := by simp; omega
  unfold rowsTo
  rw [List.set_append, if_neg (by omega), List.take_add_one, hx, e, List.replicate_succ, e1]
  simp
theorem rows_len {ls : List LkD} {i : Nat} (hi : i ≤ ls.length) : (rowsTo ls i).length = ls.length := by
  unfold rowsTo
  simp
  omega
theorem rows_all (ls : List LkD) : rowsTo ls ls.length = ls.map LkD.row := by
  simp [rowsTo]
theorem rows_zero (ls : List LkD) (n : Nat) (h : n = ls.length) : rowsTo ls 0 = List.replicate n zrow := by
  simp [rowsTo, h]
def c_laws_toLinkS : Con := ⟨1, 0, true, fun xs hs _ K => match xs with
  | [.sl 7 rows] => hs = [] ∧ ∃ ls : List LkD, rows = ls.map LkD.row ∧ (∀ x ∈ ls, x.mid) ∧ ls.length ≤ 1048576 ∧ K (.own 0) [.arr 7 (ls.map LkD.row)] []
  | _ => False⟩
theorem k_laws_toLinkS : Keeps' Tryd.prog 8 c_laws_toLinkS := by
  refine keeps_of_vc mix TyT_ok (cok_cons k_laws_toLink Tryd.func21 rfl rfl cok_nil) Tryd.func8 rfl rfl rfl ?_
  intro aargs hs Fs K h
  simp only [c_laws_toLinkS] at h
  split at h
  case h_2 => exact h.elim
  rename_i rows
  obtain ⟨rfl, ls, rfl, hmid, hl, h⟩ := h
  have hlen : (ls.map LkD.row).length = ls.length := by simp
  repeat' (first|((conv=>whnf); (first|refine brK_dec (fun _=>?_) (fun _=>?_)|refine brK_ndec (fun _=>?_) (fun _=>?_)|refine brK_not (fun _=>?_) (fun _=>?_)|refine brK_in (fun _=>?_) (fun _=>?_)|refine And.intro (by first|exact rfl|exact ⟨_,rfl,rfl⟩|exact ⟨rfl,rfl,rfl⟩|exact of_decide_eq_true rfl|exact trivial|assumption|omega|(show (_ ≤ _ ∧ _ ≤ _); omega)|(simp; omega)|exact ⟨by first|omega|(simp; omega),_,rfl,rfl⟩) ?_|refine Quo.l (And.intro (by first|exact rfl|assumption|omega|(simp; omega)) ?_)|refine Quo.r (And.intro (by omega) ?_)|refine Both.mk ?_ ?_|refine Exists.intro _ (And.intro rfl ?_)|refine fun _=>?_))|exact rfl)
  refine loop_in (ι := Nat) (fun i => mkS 23 [(0, .sl 7 (ls.map LkD.row)), (2, .val (.slice none 0 0)), (3, .own 0), (4, I i)] [.arr 7 (rowsTo ls i)] Fs) (fun i => i ≤ ls.length) (fun i => ls.length - i) 0 [0] (Nat.zero_le _) ?_ ?_
  · repeat' (first|((conv=>whnf); (first|refine brK_dec (fun _=>?_) (fun _=>?_)|refine brK_ndec (fun _=>?_) (fun _=>?_)|refine brK_not (fun _=>?_) (fun _=>?_)|refine brK_in (fun _=>?_) (fun _=>?_)|refine And.intro (by first|exact rfl|exact (rows_zero ls _ (by simp))|exact ⟨_,rfl,rfl⟩|exact ⟨rfl,rfl,rfl⟩|exact of_decide_eq_true rfl|exact trivial|assumption|omega|(show (_ ≤ _ ∧ _ ≤ _); omega)|(simp; omega)|exact ⟨by first|omega|(simp; omega),_,rfl,rfl⟩) ?_|refine Quo.l (And.intro (by first|exact rfl|exact (rows_zero ls _ (by simp))|assumption|omega|(simp; omega)) ?_)|refine Quo.r (And.intro (by omega) ?_)|refine Both.mk ?_ ?_|refine Exists.intro _ (And.intro rfl ?_)|refine fun _=>?_))|exact rfl)
  intro i hi
  have hrl := rows_len hi
  repeat' (first|((conv=>whnf); (first|refine brK_dec (fun _=>?_) (fun _=>?_)|refine brK_ndec (fun _=>?_) (fun _=>?_)|refine brK_not (fun _=>?_) (fun _=>?_)|refine brK_in (fun _=>?_) (fun _=>?_)|refine And.intro (by first|exact rfl|exact ⟨_,rfl,rfl⟩|exact ⟨rfl,rfl,rfl⟩|exact of_decide_eq_true rfl|exact trivial|assumption|omega|(show (_ ≤ _ ∧ _ ≤ _); omega)|(simp; omega)|exact ⟨by first|omega|(simp; omega),_,rfl,rfl⟩) ?_|refine Quo.l (And.intro (by first|exact rfl|assumption|omega|(simp; omega)) ?_)|refine Quo.r (And.intro (by omega) ?_)|refine Both.mk ?_ ?_|refine Exists.intro _ (And.intro rfl ?_)|refine fun _=>?_))|exact rfl)
  · rename_i hil e he
    obtain ⟨x, hx, rfl⟩ := lks_at he
    have hx : ls[i]? = some x := hx
    obtain ⟨b1, b2, b3⟩ := hmid x (List.mem_of_getElem? hx)
    repeat' (first|((conv=>whnf); (first|refine brK_dec (fun _=>?_) (fun _=>?_)|refine brK_ndec (fun _=>?_) (fun _=>?_)|refine brK_not (fun _=>?_) (fun _=>?_)|refine brK_in (fun _=>?_) (fun _=>?_)|refine And.intro (by first|exact rfl|exact ⟨_,rfl,rfl⟩|exact ⟨rfl,rfl,rfl⟩|exact of_decide_eq_true rfl|exact trivial|assumption|omega|(show (_ ≤ _ ∧ _ ≤ _); omega)|(simp; omega)|exact ⟨by first|omega|(simp; omega),_,rfl,rfl⟩) ?_|refine Quo.l (And.intro (by first|exact rfl|assumption|omega|(simp; omega)) ?_)|refine Quo.r (And.intro (by omega) ?_)|refine Both.mk ?_ ?_|refine Exists.intro _ (And.intro rfl ?_)|refine fun _=>?_))|exact rfl)
    rename_i e he2
    have he2 : (rowsTo ls i)[i]? = some e := he2
    obtain rfl := rows_at (by omega) he2
    refine ⟨i + 1, [0], by omega, by omega, ?_⟩
    repeat' (first|((conv=>whnf); (first|refine brK_dec (fun _=>?_) (fun _=>?_)|refine brK_ndec (fun _=>?_) (fun _=>?_)|refine brK_not (fun _=>?_) (fun _=>?_)|refine brK_in (fun _=>?_) (fun _=>?_)|refine And.intro (by first|exact rfl|exact ((rows_set hx).symm)|exact ⟨_,rfl,rfl⟩|exact ⟨rfl,rfl,rfl⟩|exact of_decide_eq_true rfl|exact trivial|assumption|omega|(show (_ ≤ _ ∧ _ ≤ _); omega)|(simp; omega)|exact ⟨by first|omega|(simp; omega),_,rfl,rfl⟩) ?_|refine Quo.l (And.intro (by first|exact rfl|exact ((rows_set hx).symm)|assumption|omega|(simp; omega)) ?_)|refine Quo.r (And.intro (by omega) ?_)|refine Both.mk ?_ ?_|refine Exists.intro _ (And.intro rfl ?_)|refine fun _=>?_))|exact rfl)
  · rename_i hil
    have e : i = ls.length := by omega
    subst e
    rw [rows_all]
    exact h
def c_laws_eqLinkS : Con := ⟨0, 0, false, fun xs hs _ K => match xs with
  | [.sl 7 a, .sl 7 b] => hs = [] ∧ a = b ∧ ∃ ls : List LkD, a = ls.map LkD.row ∧ (∀ x ∈ ls, x.small) ∧ ls.length < 2000000 ∧ K (B true) [] []
  | _ => False⟩
theorem k_laws_eqLinkS : Keeps' Tryd.prog 11 c_laws_eqLinkS := by
  refine keeps_of_vc mix TyT_ok (cok_cons k_laws_eqLink Tryd.func26 rfl rfl cok_nil) Tryd.func11 rfl rfl rfl ?_
  intro aargs hs Fs K h
  simp only [c_laws_eqLinkS] at h
  split at h
  case h_2 => exact h.elim
  rename_i a b
  obtain ⟨rfl, rfl, ls, rfl, hsm, hl, h⟩ := h
  have hlen : (ls.map LkD.row).length = ls.length := by simp
  repeat' (first|((conv=>whnf); (first|refine draw_plan (id := 6) [] [] (.take 0 (.take 1 (.take 2 (.take 3 (.take 4 (.take 5 (.take 6 (.take 7 (.run 8 (.take 9 .done)))))))))) (by kernel_rfl) (by kernel_rfl) ?_|refine brK_dec (fun _=>?_) (fun _=>?_)|refine brK_ndec (fun _=>?_) (fun _=>?_)|refine brK_not (fun _=>?_) (fun _=>?_)|refine brK_in (fun _=>?_) (fun _=>?_)|refine And.intro (by first|exact rfl|exact ⟨_,rfl,rfl⟩|exact ⟨rfl,rfl,rfl⟩|exact of_decide_eq_true rfl|exact trivial|assumption|omega|(show (_ ≤ _ ∧ _ ≤ _); omega)|(simp; omega)|exact ⟨by first|omega|(simp; omega),_,rfl,rfl⟩) ?_|refine Quo.l (And.intro (by first|exact rfl|assumption|omega|(simp; omega)) ?_)|refine Quo.r (And.intro (by omega) ?_)|refine Both.mk ?_ ?_|refine Exists.intro _ (And.intro rfl ?_)|refine fun _=>?_))|exact rfl)
  · rename_i q
    exact absurd rfl q
  refine loop_in (ι := Nat) (fun i => mkS 27 [(0, .sl 7 (ls.map LkD.row)), (1, .sl 7 (ls.map LkD.row)), (4, B false), (5, I i)] [] Fs) (fun i => i ≤ ls.length) (fun i => ls.length - i) 0 [] (Nat.zero_le _) ?_ ?_
  · repeat' (first|((conv=>whnf); (first|refine brK_dec (fun _=>?_) (fun _=>?_)|refine brK_ndec (fun _=>?_) (fun _=>?_)|refine brK_not (fun _=>?_) (fun _=>?_)|refine brK_in (fun _=>?_) (fun _=>?_)|refine And.intro (by first|exact rfl|exact ⟨_,rfl,rfl⟩|exact ⟨rfl,rfl,rfl⟩|exact of_decide_eq_true rfl|exact trivial|assumption|omega|(show (_ ≤ _ ∧ _ ≤ _); omega)|(simp; omega)|exact ⟨by first|omega|(simp; omega),_,rfl,rfl⟩) ?_|refine Quo.l (And.intro (by first|exact rfl|assumption|omega|(simp; omega)) ?_)|refine Quo.r (And.intro (by omega) ?_)|refine Both.mk ?_ ?_|refine Exists.intro _ (And.intro rfl ?_)|refine fun _=>?_))|exact rfl)
  intro i hi
  repeat' (first|((conv=>whnf); (first|refine draw_plan (id := 6) [] [] (.take 0 (.take 1 (.take 2 (.take 3 (.take 4 (.take 5 (.take 6 (.take 7 (.run 8 (.take 9 .done)))))))))) (by kernel_rfl) (by kernel_rfl) ?_|refine brK_dec (fun _=>?_) (fun _=>?_)|refine brK_ndec (fun _=>?_) (fun _=>?_)|refine brK_not (fun _=>?_) (fun _=>?_)|refine brK_in (fun _=>?_) (fun _=>?_)|refine And.intro (by first|exact rfl|exact ⟨_,rfl,rfl⟩|exact ⟨rfl,rfl,rfl⟩|exact of_decide_eq_true rfl|exact trivial|assumption|omega|(show (_ ≤ _ ∧ _ ≤ _); omega)|(simp; omega)|exact ⟨by first|omega|(simp; omega),_,rfl,rfl⟩) ?_|refine Quo.l (And.intro (by first|exact rfl|assumption|omega|(simp; omega)) ?_)|refine Quo.r (And.intro (by omega) ?_)|refine Both.mk ?_ ?_|refine Exists.intro _ (And.intro rfl ?_)|refine fun _=>?_))|exact rfl)
  · rename_i hil e he
    obtain ⟨x, hx, rfl⟩ := lks_at he
    have hx : ls[i]? = some x := hx
    obtain ⟨⟨b1, b2⟩, b3⟩ := hsm x (List.mem_of_getElem? hx)
    repeat' (first|((conv=>whnf); (first|refine draw_plan (id := 6) [] [] (.take 0 (.take 1 (.take 2 (.take 3 (.take 4 (.take 5 (.take 6 (.take 7 (.run 8 (.take 9 .done)))))))))) (by kernel_rfl) (by kernel_rfl) ?_|refine brK_dec (fun _=>?_) (fun _=>?_)|refine brK_ndec (fun _=>?_) (fun _=>?_)|refine brK_not (fun _=>?_) (fun _=>?_)|refine brK_in (fun _=>?_) (fun _=>?_)|refine And.intro (by first|exact rfl|exact ⟨_,rfl,rfl⟩|exact ⟨rfl,rfl,rfl⟩|exact of_decide_eq_true rfl|exact trivial|assumption|omega|(show (_ ≤ _ ∧ _ ≤ _); omega)|(simp; omega)|exact ⟨by first|omega|(simp; omega),_,rfl,rfl⟩) ?_|refine Quo.l (And.intro (by first|exact rfl|assumption|omega|(simp; omega)) ?_)|refine Quo.r (And.intro (by omega) ?_)|refine Both.mk ?_ ?_|refine Exists.intro _ (And.intro rfl ?_)|refine fun _=>?_))|exact rfl)
    rename_i e he2
    obtain ⟨y, hy, rfl⟩ := lks_at he2
    have hy : ls[i]? = some y := hy
    obtain rfl : x = y := Option.some.inj (hx.symm.trans hy)
    repeat' (first|((conv=>whnf); (first|refine draw_plan (id := 6) [] [] (.take 0 (.take 1 (.take 2 (.take 3 (.take 4 (.take 5 (.take 6 (.take 7 (.run 8 (.take 9 .done)))))))))) (by kernel_rfl) (by kernel_rfl) ?_|refine brK_dec (fun _=>?_) (fun _=>?_)|refine brK_ndec (fun _=>?_) (fun _=>?_)|refine brK_not (fun _=>?_) (fun _=>?_)|refine brK_in (fun _=>?_) (fun _=>?_)|refine And.intro (by first|exact rfl|exact ⟨_,rfl,rfl⟩|exact ⟨rfl,rfl,rfl⟩|exact of_decide_eq_true rfl|exact trivial|assumption|omega|(show (_ ≤ _ ∧ _ ≤ _); omega)|(simp; omega)|exact ⟨by first|omega|(simp; omega),_,rfl,rfl⟩) ?_|refine Quo.l (And.intro (by first|exact rfl|assumption|omega|(simp; omega)) ?_)|refine Quo.r (And.intro (by omega) ?_)|refine Both.mk ?_ ?_|refine Exists.intro _ (And.intro rfl ?_)|refine fun _=>?_))|exact rfl)
    · rename_i q
      exact absurd ⟨⟨rfl, rfl, rfl, rfl⟩, rfl, rfl, rfl⟩ q
    · refine ⟨i + 1, [], by omega, by omega, ?_⟩
      repeat' (first|((conv=>whnf); (first|refine brK_dec (fun _=>?_) (fun _=>?_)|refine brK_ndec (fun _=>?_) (fun _=>?_)|refine brK_not (fun _=>?_) (fun _=>?_)|refine brK_in (fun _=>?_) (fun _=>?_)|refine And.intro (by first|exact rfl|exact ⟨_,rfl,rfl⟩|exact ⟨rfl,rfl,rfl⟩|exact of_decide_eq_true rfl|exact trivial|assumption|omega|(show (_ ≤ _ ∧ _ ≤ _); omega)|(simp; omega)|exact ⟨by first|omega|(simp; omega),_,rfl,rfl⟩) ?_|refine Quo.l (And.intro (by first|exact rfl|assumption|omega|(simp; omega)) ?_)|refine Quo.r (And.intro (by omega) ?_)|refine Both.mk ?_ ?_|refine Exists.intro _ (And.intro rfl ?_)|refine fun _=>?_))|exact rfl)
  · exact h
end Go.Proofs.YtdljacpmoaeepaaDoor
