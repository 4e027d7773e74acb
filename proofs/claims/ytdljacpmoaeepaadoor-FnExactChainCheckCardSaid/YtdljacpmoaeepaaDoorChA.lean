/-
Chains of links: the checks of the program and of the reference.
No conditions.
-/
import Derived.Test.YtdljacpmoaeepaaDoorChP
import Derived.Test.YtdljacpmoaeepaaDoorCpA
namespace Go.Proofs.YtdljacpmoaeepaaDoor
open Go Go.Vc
set_option maxHeartbeats 4000000
set_option maxRecDepth 10000
theorem lastE_small {e : EpD} {ls : List LkD} (he : e.small) (h : ∀ x ∈ ls, x.small) : (lastE e ls).small := by
  induction ls generalizing e with
  | nil => exact he
  | cons x l ih => exact ih (h x (by simp)).1 fun y hy => h y (by simp [hy])
theorem row_at {ls : List LkD} {i : Nat} {e : List AV} (h : (ls.map LkD.row)[i]? = some e) : ∃ x, ls[i]? = some x ∧ e = x.row := by
  rw [List.getElem?_map] at h
  obtain ⟨x, h1, h2⟩ := Option.map_eq_some_iff.1 h
  exact ⟨x, h1, h2.symm⟩
def c_spec_ChainCheck : Con := ⟨2, 0, false, fun xs hs _ K => match xs with
  | [.agg [.val (.int .i64 n), .ints c, .ints k, .val (.int .i64 r)], .sl 7 rows] => hs = [] ∧ ∃ ls : List LkD, rows = ls.map LkD.row ∧ c.length < 2000000 ∧ k.length < 2000000 ∧ (∀ x ∈ ls, x.small) ∧ ls.length < 2000000 ∧
    Both (accV ⟨n, c, k, r⟩ ls = true → K (.tup [.agg [I (lastE ⟨n, c, k, r⟩ ls).n, .own 0, .own 1, I (lastE ⟨n, c, k, r⟩ ls).r], B true]) [.iarr (lastE ⟨n, c, k, r⟩ ls).c, .iarr (lastE ⟨n, c, k, r⟩ ls).k] [])
      (accV ⟨n, c, k, r⟩ ls = false → K (.tup [.agg [I 0, .val (.slice none 0 0), .val (.slice none 0 0), I 0], B false]) [] [])
  | _ => False⟩
theorem k_spec_ChainCheck : Keeps' Tryd.prog 6 c_spec_ChainCheck := by
  refine keeps_of_vc mix TyT_ok (cok_cons k_spec_EpochValid Tryd.func17 rfl rfl (cok_cons k_spec_LinkCheck Tryd.func18 rfl rfl (cok_cons k_spec_l41Copy Tryd.func19 rfl rfl cok_nil))) Tryd.func6 rfl rfl rfl ?_
  intro aargs hs Fs K h
  simp only [c_spec_ChainCheck] at h
  split at h
  case h_2 => exact h.elim
  rename_i n c k r rows
  obtain ⟨rfl, ls, rfl, l1, l2, hsm, l3, h⟩ := h
  have hlen : (ls.map LkD.row).length = ls.length := by simp
  generalize he0 : (⟨n, c, k, r⟩ : EpD) = e0 at h
  have hs0 : e0.small := by rw [← he0]; exact ⟨l1, l2⟩
  repeat' (first|((conv=>whnf); (first|refine draw_plan (id := 7) [] [] (.take 0 (.take 1 (.take 2 (.take 3 (.take 4 (.run 5 (.take 6 .done))))))) (by kernel_rfl) (by kernel_rfl) ?_|refine brK_dec (fun _=>?_) (fun _=>?_)|refine brK_ndec (fun _=>?_) (fun _=>?_)|refine brK_not (fun _=>?_) (fun _=>?_)|refine brK_in (fun _=>?_) (fun _=>?_)|refine And.intro (by first|exact rfl|exact ⟨_,rfl,rfl⟩|exact ⟨rfl,rfl,rfl⟩|exact of_decide_eq_true rfl|exact trivial|assumption|omega|(show (_ ≤ _ ∧ _ ≤ _); omega)|(simp; omega)|exact ⟨by first|omega|(simp; omega),_,rfl,rfl⟩) ?_|refine Quo.l (And.intro (by first|exact rfl|assumption|omega|(simp; omega)) ?_)|refine Quo.r (And.intro (by omega) ?_)|refine Both.mk ?_ ?_|refine Exists.intro _ (And.intro rfl ?_)|refine fun _=>?_))|exact rfl)
  · rename_i q
    exact h.r (by rw [accV, ← he0, EpD.ok, q]; rfl)
  · rename_i q
    have hok : e0.ok = true := by rw [← he0]; exact q
    refine loop_in (ι := Nat) (fun i => mkS 34 [(1, .sl 7 (ls.map LkD.row)), (2, .ptr 0 0), (4, .ptr 1 0), (5, B false), (6, .ptr 2 0), (7, I i)] [.cells [I n, .ints c, .ints k, I r], .cells [I 0, .val (.slice none 0 0), .val (.slice none 0 0), I 0], .cells [I (lastE e0 (ls.take i)).n, .ints (lastE e0 (ls.take i)).c, .ints (lastE e0 (ls.take i)).k, I (lastE e0 (ls.take i)).r]] Fs) (fun i => i ≤ ls.length ∧ chainV e0 (ls.take i) = true) (fun i => ls.length - i) 0 [0, 1, 2] ⟨Nat.zero_le _, rfl⟩ ?_ ?_
    · subst he0
      repeat' (first|((conv=>whnf); (first|refine brK_dec (fun _=>?_) (fun _=>?_)|refine brK_ndec (fun _=>?_) (fun _=>?_)|refine brK_not (fun _=>?_) (fun _=>?_)|refine brK_in (fun _=>?_) (fun _=>?_)|refine And.intro (by first|exact rfl|exact ⟨_,rfl,rfl⟩|exact ⟨rfl,rfl,rfl⟩|exact of_decide_eq_true rfl|exact trivial|assumption|omega|(show (_ ≤ _ ∧ _ ≤ _); omega)|(simp; omega)|exact ⟨by first|omega|(simp; omega),_,rfl,rfl⟩) ?_|refine Quo.l (And.intro (by first|exact rfl|assumption|omega|(simp; omega)) ?_)|refine Quo.r (And.intro (by omega) ?_)|refine Both.mk ?_ ?_|refine Exists.intro _ (And.intro rfl ?_)|refine fun _=>?_))|exact rfl)
    intro i ⟨hi, hch⟩
    have hsl : (lastE e0 (ls.take i)).small := lastE_small hs0 fun x hx => hsm x (List.mem_of_mem_take hx)
    have hs1 := hsl.1
    have hs2 := hsl.2
    repeat' (first|((conv=>whnf); (first|refine draw_plan (id := 7) [] [] (.take 0 (.take 1 (.take 2 (.take 3 (.take 4 (.run 5 (.take 6 .done))))))) (by kernel_rfl) (by kernel_rfl) ?_|refine brK_dec (fun _=>?_) (fun _=>?_)|refine brK_ndec (fun _=>?_) (fun _=>?_)|refine brK_not (fun _=>?_) (fun _=>?_)|refine brK_in (fun _=>?_) (fun _=>?_)|refine And.intro (by first|exact rfl|exact ⟨_,rfl,rfl⟩|exact ⟨rfl,rfl,rfl⟩|exact of_decide_eq_true rfl|exact trivial|assumption|omega|(show (_ ≤ _ ∧ _ ≤ _); omega)|(simp; omega)|exact ⟨by first|omega|(simp; omega),_,rfl,rfl⟩) ?_|refine Quo.l (And.intro (by first|exact rfl|assumption|omega|(simp; omega)) ?_)|refine Quo.r (And.intro (by omega) ?_)|refine Both.mk ?_ ?_|refine Exists.intro _ (And.intro rfl ?_)|refine fun _=>?_))|exact rfl)
    · rename_i hil e he
      obtain ⟨x, hx, rfl⟩ := row_at he
      have hx : ls[i]? = some x := hx
      have hsx := hsm x (List.mem_of_getElem? hx)
      have hx1 := hsx.1.1
      have hx2 := hsx.1.2
      have hx3 := hsx.2
      repeat' (first|((conv=>whnf); (first|refine draw_plan (id := 7) [] [] (.take 0 (.take 1 (.take 2 (.take 3 (.take 4 (.run 5 (.take 6 .done))))))) (by kernel_rfl) (by kernel_rfl) ?_|refine brK_dec (fun _=>?_) (fun _=>?_)|refine brK_ndec (fun _=>?_) (fun _=>?_)|refine brK_not (fun _=>?_) (fun _=>?_)|refine brK_in (fun _=>?_) (fun _=>?_)|refine And.intro (by first|exact rfl|exact ⟨_,rfl,rfl⟩|exact ⟨rfl,rfl,rfl⟩|exact of_decide_eq_true rfl|exact trivial|assumption|omega|(show (_ ≤ _ ∧ _ ≤ _); omega)|(simp; omega)|exact ⟨by first|omega|(simp; omega),_,rfl,rfl⟩) ?_|refine Quo.l (And.intro (by first|exact rfl|assumption|omega|(simp; omega)) ?_)|refine Quo.r (And.intro (by omega) ?_)|refine Both.mk ?_ ?_|refine Exists.intro _ (And.intro rfl ?_)|refine fun _=>?_))|exact rfl)
      · rename_i q
        exact h.r (by rw [accV, chainV_no hx q, Bool.and_false])
      · rename_i q e' he'
        obtain ⟨x', hx', rfl⟩ := row_at he'
        have hx' : ls[i]? = some x' := hx'
        obtain rfl : x = x' := Option.some.inj (hx.symm.trans hx')
        repeat' (first|((conv=>whnf); (first|refine draw_plan (id := 7) [] [] (.take 0 (.take 1 (.take 2 (.take 3 (.take 4 (.run 5 (.take 6 .done))))))) (by kernel_rfl) (by kernel_rfl) ?_|refine brK_dec (fun _=>?_) (fun _=>?_)|refine brK_ndec (fun _=>?_) (fun _=>?_)|refine brK_not (fun _=>?_) (fun _=>?_)|refine brK_in (fun _=>?_) (fun _=>?_)|refine And.intro (by first|exact rfl|exact ⟨_,rfl,rfl⟩|exact ⟨rfl,rfl,rfl⟩|exact of_decide_eq_true rfl|exact trivial|assumption|omega|(show (_ ≤ _ ∧ _ ≤ _); omega)|(simp; omega)|exact ⟨by first|omega|(simp; omega),_,rfl,rfl⟩) ?_|refine Quo.l (And.intro (by first|exact rfl|assumption|omega|(simp; omega)) ?_)|refine Quo.r (And.intro (by omega) ?_)|refine Both.mk ?_ ?_|refine Exists.intro _ (And.intro rfl ?_)|refine fun _=>?_))|exact rfl)
        refine ⟨i + 1, [0, 1, 2], ⟨by omega, by rw [chainV_take hx, hch]; exact q⟩, by omega, ?_⟩
        rw [lastE_take hx]
        repeat' (first|((conv=>whnf); (first|refine brK_dec (fun _=>?_) (fun _=>?_)|refine brK_ndec (fun _=>?_) (fun _=>?_)|refine brK_not (fun _=>?_) (fun _=>?_)|refine brK_in (fun _=>?_) (fun _=>?_)|refine And.intro (by first|exact rfl|exact ⟨_,rfl,rfl⟩|exact ⟨rfl,rfl,rfl⟩|exact of_decide_eq_true rfl|exact trivial|assumption|omega|(show (_ ≤ _ ∧ _ ≤ _); omega)|(simp; omega)|exact ⟨by first|omega|(simp; omega),_,rfl,rfl⟩) ?_|refine Quo.l (And.intro (by first|exact rfl|assumption|omega|(simp; omega)) ?_)|refine Quo.r (And.intro (by omega) ?_)|refine Both.mk ?_ ?_|refine Exists.intro _ (And.intro rfl ?_)|refine fun _=>?_))|exact rfl)
    · rename_i hil
      rw [List.take_of_length_le (by omega)] at hch ⊢
      exact h.l (by rw [accV, hok, hch]; rfl)
def c_impl_ChainCheck : Con := ⟨2, 0, false, fun xs hs Fs K => match xs with
  | [.agg [.val (.int .i64 n), .ints c, .ints k, .val (.int .i64 r)], .sl 7 rows] => hs = [] ∧ hasTab Fs ∧ ∃ ls : List LkD, rows = ls.map LkD.row ∧ c.length < 2000000 ∧ k.length < 2000000 ∧ (∀ x ∈ ls, x.small) ∧ ls.length < 2000000 ∧
    Both (accV ⟨n, c, k, r⟩ ls = true → K (.tup [.agg [I (lastE ⟨n, c, k, r⟩ ls).n, .own 0, .own 1, I (lastE ⟨n, c, k, r⟩ ls).r], B true]) [.iarr (lastE ⟨n, c, k, r⟩ ls).c, .iarr (lastE ⟨n, c, k, r⟩ ls).k] [])
      (accV ⟨n, c, k, r⟩ ls = false → K (.tup [.agg [I 0, .val (.slice none 0 0), .val (.slice none 0 0), I 0], B false]) [] [])
  | _ => False⟩
theorem k_impl_ChainCheck : Keeps' Tryd.prog 9 c_impl_ChainCheck := by
  refine keeps_of_vc mix TyT_ok (cok_cons k_impl_EpochValid Tryd.func22 rfl rfl (cok_cons k_impl_LinkCheck Tryd.func23 rfl rfl (cok_cons k_impl_cloneEpoch Tryd.func24 rfl rfl cok_nil))) Tryd.func9 rfl rfl rfl ?_
  intro aargs hs Fs K h
  simp only [c_impl_ChainCheck] at h
  split at h
  case h_2 => exact h.elim
  rename_i n c k r rows
  obtain ⟨rfl, hT, ls, rfl, l1, l2, hsm, l3, h⟩ := h
  have hlen : (ls.map LkD.row).length = ls.length := by simp
  generalize he0 : (⟨n, c, k, r⟩ : EpD) = e0 at h
  have hs0 : e0.small := by rw [← he0]; exact ⟨l1, l2⟩
  repeat' (first|((conv=>whnf); (first|refine brK_dec (fun _=>?_) (fun _=>?_)|refine brK_ndec (fun _=>?_) (fun _=>?_)|refine brK_not (fun _=>?_) (fun _=>?_)|refine brK_in (fun _=>?_) (fun _=>?_)|refine And.intro (by first|exact rfl|exact ⟨_,rfl,rfl⟩|exact ⟨rfl,rfl,rfl⟩|exact of_decide_eq_true rfl|exact trivial|assumption|omega|(show (_ ≤ _ ∧ _ ≤ _); omega)|(simp; omega)|exact ⟨by first|omega|(simp; omega),_,rfl,rfl⟩) ?_|refine Quo.l (And.intro (by first|exact rfl|assumption|omega|(simp; omega)) ?_)|refine Quo.r (And.intro (by omega) ?_)|refine Both.mk ?_ ?_|refine Exists.intro _ (And.intro rfl ?_)|refine fun _=>?_))|exact rfl)
  · rename_i q
    exact h.r (by rw [accV, ← he0, EpD.ok, q]; rfl)
  · rename_i q
    have hok : e0.ok = true := by rw [← he0]; exact q
    refine loop_in (ι := Nat) (fun i => mkS 30 [(1, .sl 7 (ls.map LkD.row)), (2, .ptr 0 0), (4, .ptr 1 0), (5, B false), (6, .ptr 2 0), (14, .sl 7 (ls.map LkD.row)), (15, I (ls.map LkD.row).length), (16, I i)] [.cells [I n, .ints c, .ints k, I r], .cells [I 0, .val (.slice none 0 0), .val (.slice none 0 0), I 0], .cells [I (lastE e0 (ls.take i)).n, .ints (lastE e0 (ls.take i)).c, .ints (lastE e0 (ls.take i)).k, I (lastE e0 (ls.take i)).r]] Fs) (fun i => i ≤ ls.length ∧ chainV e0 (ls.take i) = true) (fun i => ls.length - i) 0 [0, 1, 2] ⟨Nat.zero_le _, rfl⟩ ?_ ?_
    · subst he0
      repeat' (first|((conv=>whnf); (first|refine brK_dec (fun _=>?_) (fun _=>?_)|refine brK_ndec (fun _=>?_) (fun _=>?_)|refine brK_not (fun _=>?_) (fun _=>?_)|refine brK_in (fun _=>?_) (fun _=>?_)|refine And.intro (by first|exact rfl|exact ⟨_,rfl,rfl⟩|exact ⟨rfl,rfl,rfl⟩|exact of_decide_eq_true rfl|exact trivial|assumption|omega|(show (_ ≤ _ ∧ _ ≤ _); omega)|(simp; omega)|exact ⟨by first|omega|(simp; omega),_,rfl,rfl⟩) ?_|refine Quo.l (And.intro (by first|exact rfl|assumption|omega|(simp; omega)) ?_)|refine Quo.r (And.intro (by omega) ?_)|refine Both.mk ?_ ?_|refine Exists.intro _ (And.intro rfl ?_)|refine fun _=>?_))|exact rfl)
    intro i ⟨hi, hch⟩
    have hsl : (lastE e0 (ls.take i)).small := lastE_small hs0 fun x hx => hsm x (List.mem_of_mem_take hx)
    have hs1 := hsl.1
    have hs2 := hsl.2
    repeat' (first|((conv=>whnf); (first|refine brK_dec (fun _=>?_) (fun _=>?_)|refine brK_ndec (fun _=>?_) (fun _=>?_)|refine brK_not (fun _=>?_) (fun _=>?_)|refine brK_in (fun _=>?_) (fun _=>?_)|refine And.intro (by first|exact rfl|exact ⟨_,rfl,rfl⟩|exact ⟨rfl,rfl,rfl⟩|exact of_decide_eq_true rfl|exact trivial|assumption|omega|(show (_ ≤ _ ∧ _ ≤ _); omega)|(simp; omega)|exact ⟨by first|omega|(simp; omega),_,rfl,rfl⟩) ?_|refine Quo.l (And.intro (by first|exact rfl|assumption|omega|(simp; omega)) ?_)|refine Quo.r (And.intro (by omega) ?_)|refine Both.mk ?_ ?_|refine Exists.intro _ (And.intro rfl ?_)|refine fun _=>?_))|exact rfl)
    · rename_i hil e he
      obtain ⟨x, hx, rfl⟩ := row_at he
      have hx : ls[i]? = some x := hx
      have hsx := hsm x (List.mem_of_getElem? hx)
      have hx1 := hsx.1.1
      have hx2 := hsx.1.2
      have hx3 := hsx.2
      repeat' (first|((conv=>whnf); (first|refine brK_dec (fun _=>?_) (fun _=>?_)|refine brK_ndec (fun _=>?_) (fun _=>?_)|refine brK_not (fun _=>?_) (fun _=>?_)|refine brK_in (fun _=>?_) (fun _=>?_)|refine And.intro (by first|exact rfl|exact (tab_app hT)|exact ⟨_,rfl,rfl⟩|exact ⟨rfl,rfl,rfl⟩|exact of_decide_eq_true rfl|exact trivial|assumption|omega|(show (_ ≤ _ ∧ _ ≤ _); omega)|(simp; omega)|exact ⟨by first|omega|(simp; omega),_,rfl,rfl⟩) ?_|refine Quo.l (And.intro (by first|exact rfl|exact (tab_app hT)|assumption|omega|(simp; omega)) ?_)|refine Quo.r (And.intro (by omega) ?_)|refine Both.mk ?_ ?_|refine Exists.intro _ (And.intro rfl ?_)|refine fun _=>?_))|exact rfl)
      · rename_i q
        exact h.r (by rw [accV, chainV_no hx q, Bool.and_false])
      · rename_i q
        refine ⟨i + 1, [0, 1, 2], ⟨by omega, by rw [chainV_take hx, hch]; exact q⟩, by omega, ?_⟩
        rw [lastE_take hx]
        repeat' (first|((conv=>whnf); (first|refine brK_dec (fun _=>?_) (fun _=>?_)|refine brK_ndec (fun _=>?_) (fun _=>?_)|refine brK_not (fun _=>?_) (fun _=>?_)|refine brK_in (fun _=>?_) (fun _=>?_)|refine And.intro (by first|exact rfl|exact ⟨_,rfl,rfl⟩|exact ⟨rfl,rfl,rfl⟩|exact of_decide_eq_true rfl|exact trivial|assumption|omega|(show (_ ≤ _ ∧ _ ≤ _); omega)|(simp; omega)|exact ⟨by first|omega|(simp; omega),_,rfl,rfl⟩) ?_|refine Quo.l (And.intro (by first|exact rfl|assumption|omega|(simp; omega)) ?_)|refine Quo.r (And.intro (by omega) ?_)|refine Both.mk ?_ ?_|refine Exists.intro _ (And.intro rfl ?_)|refine fun _=>?_))|exact rfl)
    · rename_i hil
      rw [List.take_of_length_le (by omega)] at hch ⊢
      exact h.l (by rw [accV, hok, hch]; rfl)
end Go.Proofs.YtdljacpmoaeepaaDoor
