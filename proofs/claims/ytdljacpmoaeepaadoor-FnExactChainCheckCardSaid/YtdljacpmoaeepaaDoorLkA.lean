/-
Links between epochs: the checks of the program and of the reference.
No conditions.
-/
import Derived.Test.YtdljacpmoaeepaaDoorBldE
import Derived.Test.YtdljacpmoaeepaaDoorHsA
import Derived.Test.YtdljacpmoaeepaaDoorCkB
namespace Go.Proofs.YtdljacpmoaeepaaDoor
open Go Go.Vc
set_option maxHeartbeats 2000000
set_option maxRecDepth 10000
def lkV (n : Int) (c k : List Int) (r : Int) (n2 : Int) (c2 k2 : List Int) (r2 d : Int) (s : List Int) (m : Int) : Bool :=
  EpV n c k r && (EpV n2 c2 k2 r2 && (decide (n2 = n + 1) && (decide (d = digE n2 c2 k2 r2) && certV c k d s m)))
def c_spec_LinkCheck : Con := ⟨0, 0, false, fun xs hs _ K => match xs with
  | [.agg [.val (.int .i64 n), .ints c, .ints k, .val (.int .i64 r)], .agg [.val (.int .i64 n2), .ints c2, .ints k2, .val (.int .i64 r2), .val (.int .i64 d), .ints s, .val (.int .i64 m)]] =>
    hs = [] ∧ c.length < 2000000 ∧ k.length < 2000000 ∧ c2.length < 2000000 ∧ k2.length < 2000000 ∧ s.length < 2000000 ∧ K (B (lkV n c k r n2 c2 k2 r2 d s m)) [] []
  | _ => False⟩
theorem k_spec_LinkCheck : Keeps' Tryd.prog 18 c_spec_LinkCheck := by
  refine keeps_of_vc mix TyT_ok (cok_cons k_spec_EpochValid Tryd.func17 rfl rfl (cok_cons k_spec_l41Digest Tryd.func33 rfl rfl (cok_cons k_spec_CertCheck Tryd.func34 rfl rfl cok_nil))) Tryd.func18 rfl rfl rfl ?_
  intro aargs hs Fs K h
  simp only [c_spec_LinkCheck] at h
  split at h
  case h_2 => exact h.elim
  rename_i n c k r n2 c2 k2 r2 d s m
  obtain ⟨rfl, l1, l2, l3, l4, l5, h⟩ := h
  have no : ∀ {b : Bool}, lkV n c k r n2 c2 k2 r2 d s m = b → K (B b) [] [] := fun e => by rw [← e]; exact h
  cases e1 : EpV n c k r
  · repeat' (first|((conv=>whnf); (first|refine draw_plan (id := 1) [] [] (.take 0 (.run 1 (.take 2 (.take 3 (.take 4 (.run 5 (.take 6 (.take 7 (.take 8 (.take 9 (.take 10 (.take 11 (.take 12 (.take 13 (.take 14 (.take 15 (.take 16 (.take 17 (.take 18 (.take 19 (.take 20 (.take 21 (.run 22 (.take 23 (.take 24 (.take 25 (.take 26 (.take 27 (.take 28 (.take 29 (.take 30 (.take 31 (.run 32 (.take 33 (.take 34 .done))))))))))))))))))))))))))))))))))) (by kernel_rfl) (by kernel_rfl) ?_|refine brK_dec (fun _=>?_) (fun _=>?_)|refine brK_ndec (fun _=>?_) (fun _=>?_)|refine brK_not (fun _=>?_) (fun _=>?_)|refine brK_in (fun _=>?_) (fun _=>?_)|refine And.intro (by first|exact rfl|exact ⟨_,rfl,rfl⟩|exact ⟨rfl,rfl,rfl⟩|exact of_decide_eq_true rfl|exact trivial|assumption|omega|(show (_ ≤ _ ∧ _ ≤ _); omega)|(simp; omega)|exact ⟨by first|omega|(simp; omega),_,rfl,rfl⟩) ?_|refine Quo.l (And.intro (by first|exact rfl|assumption|omega|(simp; omega)) ?_)|refine Quo.r (And.intro (by omega) ?_)|refine Both.mk ?_ ?_|refine Exists.intro _ (And.intro rfl ?_)|refine fun _=>?_))|exact rfl)
    all_goals first
      | exact no (by rw [lkV, e1]; rfl)
      | (exfalso; simp_all; done)
  · obtain ⟨⟨n0, n1⟩, _⟩ := EpV_out e1
    repeat' (first|((conv=>whnf); (first|refine draw_plan (id := 1) [] [] (.take 0 (.run 1 (.take 2 (.take 3 (.take 4 (.run 5 (.take 6 (.take 7 (.take 8 (.take 9 (.take 10 (.take 11 (.take 12 (.take 13 (.take 14 (.take 15 (.take 16 (.take 17 (.take 18 (.take 19 (.take 20 (.take 21 (.run 22 (.take 23 (.take 24 (.take 25 (.take 26 (.take 27 (.take 28 (.take 29 (.take 30 (.take 31 (.run 32 (.take 33 (.take 34 .done))))))))))))))))))))))))))))))))))) (by kernel_rfl) (by kernel_rfl) ?_|refine brK_dec (fun _=>?_) (fun _=>?_)|refine brK_ndec (fun _=>?_) (fun _=>?_)|refine brK_not (fun _=>?_) (fun _=>?_)|refine brK_in (fun _=>?_) (fun _=>?_)|refine And.intro (by first|exact rfl|exact ⟨_,rfl,rfl⟩|exact ⟨rfl,rfl,rfl⟩|exact of_decide_eq_true rfl|exact trivial|assumption|omega|(show (_ ≤ _ ∧ _ ≤ _); omega)|(simp; omega)|exact ⟨by first|omega|(simp; omega),_,rfl,rfl⟩) ?_|refine Quo.l (And.intro (by first|exact rfl|assumption|omega|(simp; omega)) ?_)|refine Quo.r (And.intro (by omega) ?_)|refine Both.mk ?_ ?_|refine Exists.intro _ (And.intro rfl ?_)|refine fun _=>?_))|exact rfl)
    all_goals first
      | exact no (by simp_all [lkV])
      | (exfalso; simp_all; done)
def c_impl_follows : Con := ⟨0, 0, false, fun xs hs _ K => match xs with
  | [.agg [.val (.int .i64 n), .ints c, .ints k, .val (.int .i64 r)], .agg [.val (.int .i64 n2), .ints c2, .ints k2, .val (.int .i64 r2)]] =>
    hs = [] ∧ c.length < 2000000 ∧ k.length < 2000000 ∧ c2.length < 2000000 ∧ k2.length < 2000000 ∧ K (B (EpV n c k r && (EpV n2 c2 k2 r2 && decide (n2 = n + 1)))) [] []
  | _ => False⟩
theorem k_impl_follows : Keeps' Tryd.prog 39 c_impl_follows := by
  refine keeps_of_vc mix TyT_ok (cok_cons k_impl_EpochValid Tryd.func22 rfl rfl cok_nil) Tryd.func39 rfl rfl rfl ?_
  intro aargs hs Fs K h
  simp only [c_impl_follows] at h
  split at h
  case h_2 => exact h.elim
  rename_i n c k r n2 c2 k2 r2
  obtain ⟨rfl, l1, l2, l3, l4, h⟩ := h
  have no : ∀ {b : Bool}, (EpV n c k r && (EpV n2 c2 k2 r2 && decide (n2 = n + 1))) = b → K (B b) [] [] := fun e => by rw [← e]; exact h
  cases e1 : EpV n c k r
  · repeat' (first|((conv=>whnf); (first|refine brK_dec (fun _=>?_) (fun _=>?_)|refine brK_ndec (fun _=>?_) (fun _=>?_)|refine brK_not (fun _=>?_) (fun _=>?_)|refine brK_in (fun _=>?_) (fun _=>?_)|refine And.intro (by first|exact rfl|exact ⟨_,rfl,rfl⟩|exact ⟨rfl,rfl,rfl⟩|exact of_decide_eq_true rfl|exact trivial|assumption|omega|(show (_ ≤ _ ∧ _ ≤ _); omega)|(simp; omega)|exact ⟨by first|omega|(simp; omega),_,rfl,rfl⟩) ?_|refine Quo.l (And.intro (by first|exact rfl|assumption|omega|(simp; omega)) ?_)|refine Quo.r (And.intro (by omega) ?_)|refine Both.mk ?_ ?_|refine Exists.intro _ (And.intro rfl ?_)|refine fun _=>?_))|exact rfl)
    all_goals first
      | exact no (by rw [e1]; rfl)
      | (exfalso; simp_all; done)
  · obtain ⟨⟨n0, n1⟩, _⟩ := EpV_out e1
    repeat' (first|((conv=>whnf); (first|refine brK_dec (fun _=>?_) (fun _=>?_)|refine brK_ndec (fun _=>?_) (fun _=>?_)|refine brK_not (fun _=>?_) (fun _=>?_)|refine brK_in (fun _=>?_) (fun _=>?_)|refine And.intro (by first|exact rfl|exact ⟨_,rfl,rfl⟩|exact ⟨rfl,rfl,rfl⟩|exact of_decide_eq_true rfl|exact trivial|assumption|omega|(show (_ ≤ _ ∧ _ ≤ _); omega)|(simp; omega)|exact ⟨by first|omega|(simp; omega),_,rfl,rfl⟩) ?_|refine Quo.l (And.intro (by first|exact rfl|assumption|omega|(simp; omega)) ?_)|refine Quo.r (And.intro (by omega) ?_)|refine Both.mk ?_ ?_|refine Exists.intro _ (And.intro rfl ?_)|refine fun _=>?_))|exact rfl)
    all_goals first
      | exact no (by simp_all)
      | (exfalso; simp_all; done)
def c_impl_LinkCheck : Con := ⟨0, 0, false, fun xs hs Fs K => match xs with
  | [.agg [.val (.int .i64 n), .ints c, .ints k, .val (.int .i64 r)], .agg [.val (.int .i64 n2), .ints c2, .ints k2, .val (.int .i64 r2), .val (.int .i64 d), .ints s, .val (.int .i64 m)]] =>
    hs = [] ∧ hasTab Fs ∧ c.length < 2000000 ∧ k.length < 2000000 ∧ c2.length < 2000000 ∧ k2.length < 2000000 ∧ s.length < 2000000 ∧ K (B (lkV n c k r n2 c2 k2 r2 d s m)) [] []
  | _ => False⟩
theorem k_impl_LinkCheck : Keeps' Tryd.prog 23 c_impl_LinkCheck := by
  refine keeps_of_vc mix TyT_ok (cok_cons k_impl_follows Tryd.func39 rfl rfl (cok_cons k_impl_EpochDigest Tryd.func40 rfl rfl (cok_cons k_impl_CertCheck Tryd.func41 rfl rfl cok_nil))) Tryd.func23 rfl rfl rfl ?_
  intro aargs hs Fs K h
  simp only [c_impl_LinkCheck] at h
  split at h
  case h_2 => exact h.elim
  rename_i n c k r n2 c2 k2 r2 d s m
  obtain ⟨rfl, hT, l1, l2, l3, l4, l5, h⟩ := h
  have no : ∀ {b : Bool}, lkV n c k r n2 c2 k2 r2 d s m = b → K (B b) [] [] := fun e => by rw [← e]; exact h
  repeat' (first|((conv=>whnf); (first|refine draw_plan (id := 1) [] [] (.take 0 (.take 1 (.take 2 (.run 3 (.take 4 (.take 5 (.take 6 (.take 7 (.take 8 (.take 9 (.take 10 (.run 11 (.take 12 (.take 13 .done)))))))))))))) (by kernel_rfl) (by kernel_rfl) ?_|refine brK_dec (fun _=>?_) (fun _=>?_)|refine brK_ndec (fun _=>?_) (fun _=>?_)|refine brK_not (fun _=>?_) (fun _=>?_)|refine brK_in (fun _=>?_) (fun _=>?_)|refine And.intro (by first|exact rfl|exact (tab_app hT)|exact ⟨_,rfl,rfl⟩|exact ⟨rfl,rfl,rfl⟩|exact of_decide_eq_true rfl|exact trivial|assumption|omega|(show (_ ≤ _ ∧ _ ≤ _); omega)|(simp; omega)|exact ⟨by first|omega|(simp; omega),_,rfl,rfl⟩) ?_|refine Quo.l (And.intro (by first|exact rfl|exact (tab_app hT)|assumption|omega|(simp; omega)) ?_)|refine Quo.r (And.intro (by omega) ?_)|refine Both.mk ?_ ?_|refine Exists.intro _ (And.intro rfl ?_)|refine fun _=>?_))|exact rfl)
  · rename_i e1
    exact no (by
      rw [lkV]
      cases a1 : EpV n c k r
      · rfl
      cases a2 : EpV n2 c2 k2 r2
      · rfl
      simp only [a1, a2, Bool.true_and] at e1
      rw [e1]
      rfl)
  · rename_i e1 e2
    simp only [Bool.and_eq_true, decide_eq_true_eq] at e1
    obtain ⟨a1, a2, a3⟩ := e1
    exact no (by rw [lkV, a1, a2, decide_eq_true a3, decide_eq_false e2]; rfl)
  · rename_i e1 e2
    simp only [Bool.and_eq_true, decide_eq_true_eq] at e1
    obtain ⟨a1, a2, a3⟩ := e1
    have e3 : d = digE n2 c2 k2 r2 := by simpa using e2
    exact no (by rw [lkV, a1, a2, decide_eq_true a3, decide_eq_true e3]; rfl)
def comL (s t : List Int) : List Int := s.filter fun x => decide (x ∈ t)
theorem com_take_in {s t : List Int} {i : Nat} {x : Int} (hx : s[i]? = some x) (h : x ∈ t) : comL (s.take (i + 1)) t = comL (s.take i) t ++ [x] := by
  rw [List.take_add_one, hx]
  simp [comL, List.filter_append, h]
theorem com_take_no {s t : List Int} {i : Nat} {x : Int} (hx : s[i]? = some x) (h : ¬ x ∈ t) : comL (s.take (i + 1)) t = comL (s.take i) t := by
  rw [List.take_add_one, hx]
  simp [comL, List.filter_append, h]
theorem com_len (s t : List Int) (i : Nat) : (comL (s.take i) t).length ≤ i := by
  have h := List.length_filter_le (fun x => decide (x ∈ t)) (s.take i)
  have h2 : (s.take i).length ≤ i := by simp; omega
  unfold comL
  omega
def forkL (n : Int) (c k : List Int) (r : Int) (na : Int) (ca ka : List Int) (ra da : Int) (sa : List Int) (ma : Int) (nb : Int) (cb kb : List Int) (rb db : Int) (sb : List Int) (mb : Int) : List Int :=
  if (lkV n c k r na ca ka ra da sa ma && (lkV n c k r nb cb kb rb db sb mb && !decide (da = db))) = true then comL sa sb else []
def c_spec_LightFork : Con := ⟨1, 0, false, fun xs hs _ K => match xs with
  | [.agg [.val (.int .i64 n), .ints c, .ints k, .val (.int .i64 r)], .agg [.val (.int .i64 na), .ints ca, .ints ka, .val (.int .i64 ra), .val (.int .i64 da), .ints sa, .val (.int .i64 ma)],
     .agg [.val (.int .i64 nb), .ints cb, .ints kb, .val (.int .i64 rb), .val (.int .i64 db), .ints sb, .val (.int .i64 mb)]] =>
    hs = [] ∧ c.length < 2000000 ∧ k.length < 2000000 ∧ ca.length < 2000000 ∧ ka.length < 2000000 ∧ sa.length < 2000000 ∧ cb.length < 2000000 ∧ kb.length < 2000000 ∧ sb.length < 2000000 ∧
    K (.own 0) [.iarr (forkL n c k r na ca ka ra da sa ma nb cb kb rb db sb mb)] []
  | _ => False⟩
def c_impl_LightFork : Con := ⟨1, 0, false, fun xs hs Fs K => match xs with
  | [.agg [.val (.int .i64 n), .ints c, .ints k, .val (.int .i64 r)], .agg [.val (.int .i64 na), .ints ca, .ints ka, .val (.int .i64 ra), .val (.int .i64 da), .ints sa, .val (.int .i64 ma)],
     .agg [.val (.int .i64 nb), .ints cb, .ints kb, .val (.int .i64 rb), .val (.int .i64 db), .ints sb, .val (.int .i64 mb)]] =>
    hs = [] ∧ hasTab Fs ∧ c.length < 2000000 ∧ k.length < 2000000 ∧ ca.length < 2000000 ∧ ka.length < 2000000 ∧ sa.length < 2000000 ∧ cb.length < 2000000 ∧ kb.length < 2000000 ∧ sb.length < 2000000 ∧
    K (.own 0) [.iarr (forkL n c k r na ca ka ra da sa ma nb cb kb rb db sb mb)] []
  | _ => False⟩
end Go.Proofs.YtdljacpmoaeepaaDoor
