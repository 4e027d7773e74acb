/-
A vertex added to a graph by the reference.
No conditions.
-/
import Derived.Test.YtalbgcpfekmfoaaGaA
import Derived.Test.YtalbgcpfekmfoaaInP
namespace Go.Proofs.Ytalbgcpfekmfoaa
open Go Go.Vc
set_option maxHeartbeats 2000000
set_option maxRecDepth 10000
/-- How many vertices stand ahead of v. -/
def plcV (g : List VxD) (v : VxD) : Nat := (g.takeWhile fun u => ltB u v).length
theorem plc_is : ∀ {g : List VxD} {v : VxD} {i : Nat}, i ≤ g.length → (∀ (j : Nat) u, j < i → g[j]? = some u → ltB u v = true) → (∀ u, g[i]? = some u → ltB u v = false) → plcV g v = i
  | [], v, i, hi, _, _ => by
    have : i = 0 := by simpa using hi
    rw [this]
    rfl
  | x :: g, v, 0, _, _, h => by
    unfold plcV
    rw [List.takeWhile_cons, h x rfl]
    rfl
  | x :: g, v, i + 1, hi, h1, h2 => by
    have := plc_is (g := g) (v := v) (i := i) (by simpa using hi) (fun j u hj hu => h1 (j + 1) u (by omega) (by simpa using hu)) fun u hu => h2 u (by simpa using hu)
    unfold plcV at this ⊢
    rw [List.takeWhile_cons, h1 0 x (by omega) rfl]
    simp [this]
theorem plc_place (g : List VxD) (v : VxD) : Place g v (plcV g v) := by
  induction g with
  | nil => exact ⟨Nat.le_refl _, fun i u hi => absurd hi (by simp [plcV]), fun u hu => by simp at hu⟩
  | cons x g ih =>
    by_cases hx : ltB x v = true
    · have e : plcV (x :: g) v = plcV g v + 1 := by
        unfold plcV
        rw [List.takeWhile_cons, hx]
        rfl
      rw [e]
      refine ⟨by have := ih.le; simp; omega, fun i u hi hu => ?_, fun u hu => ih.suf u (by simpa using hu)⟩
      cases i with
      | zero =>
        cases hu
        exact ltB_iff.1 hx
      | succ i => exact ih.pre i u (by omega) (by simpa using hu)
    · have e : plcV (x :: g) v = 0 := by
        unfold plcV
        rw [List.takeWhile_cons, if_neg hx]
        rfl
      rw [e]
      refine ⟨Nat.zero_le _, fun i u hi => absurd hi (by omega), fun u hu => ?_⟩
      cases hu
      exact fun q => hx (ltB_iff.2 q)
def addV (g : List VxD) (v : VxD) : List VxD × Int := match findV g v.r v.a with
  | some i => (g, if sameV (g.getD i v) v = true then 1 else 2)
  | none => if parB g v = true then (insV g (plcV g v) v, 0) else (g, 3)
def addI (c : List Int) (g : List VxD) (v : VxD) : List VxD × Int := if (gV c g && vxV c v) = true then addV g v else ([], 4)
def c_spec_l11Add : Con := ⟨1, 0, true, fun xs hs _ K => match xs with
  | [.sl 4 rows, .agg [.val (.int .i64 r), .val (.int .i64 a), .ints p, .val (.int .i64 d)]] => hs = [] ∧ ∃ g : List VxD, rows = g.map VxD.row ∧ g.length < 1000000 ∧ (∀ v ∈ g, v.p.length < 2000000) ∧ p.length < 2000000 ∧ (-9000000000000000000 ≤ r ∧ r ≤ 9000000000000000000) ∧
      K (.tup [.own 0, I (addV g ⟨r, a, p, d⟩).2]) [.arr 4 ((addV g ⟨r, a, p, d⟩).1.map VxD.row)] []
  | _ => False⟩
theorem k_spec_l11Add : Keeps' Try.prog 50 c_spec_l11Add := by
  refine keeps_of_vc mix TyT_ok (cok_cons k_spec_l11Find Try.func87 rfl rfl (cok_cons k_spec_l11Same Try.func88 rfl rfl (cok_cons k_spec_l11Copy Try.func89 rfl rfl (cok_cons k_spec_l11Parents Try.func71 rfl rfl (cok_cons k_spec_l11Before Try.func70 rfl rfl (cok_cons k_spec_l11One Try.func74 rfl rfl cok_nil)))))) Try.func50 rfl rfl rfl ?_
  intro aargs hs Fs K h
  simp only [c_spec_l11Add] at h
  split at h
  case h_2 => exact h.elim
  rename_i rows r a p d
  obtain ⟨rfl, g, rfl, hg, hp, hp2, hr, h⟩ := h
  have hlen : (g.map VxD.row).length = g.length := by simp
  rcases fnd_cases g r a with ⟨i, e1, e2, e3⟩ | ⟨e1, e2⟩
  · obtain ⟨u, hu, _⟩ := find_out e1
    have hpu := hp u (List.mem_of_getElem? hu)
    have e4 : addV g ⟨r, a, p, d⟩ = (g, if sameV u ⟨r, a, p, d⟩ = true then 1 else 2) := by
      unfold addV
      rw [e1]
      simp [List.getD, hu]
    rw [e4] at h
    repeat' (first|((conv=>whnf); (first|refine draw_plan (id := 2) [] [] (.take 0 (.take 1 (.take 2 (.take 3 (.take 4 (.take 5 (.take 6 (.take 7 (.run 8 (.take 9 (.take 10 .done))))))))))) (by kernel_rfl) (by kernel_rfl) ?_|refine draw_plan (id := 10) [] [] (.take 0 (.take 1 (.take 2 (.take 3 (.take 4 (.take 5 (.take 6 (.take 7 (.take 8 (.take 9 (.run 10 (.take 11 .done)))))))))))) (by kernel_rfl) (by kernel_rfl) ?_|refine brK_dec (fun _=>?_) (fun _=>?_)|refine brK_ndec (fun _=>?_) (fun _=>?_)|refine brK_not (fun _=>?_) (fun _=>?_)|refine brK_in (fun _=>?_) (fun _=>?_)|refine And.intro (by first|exact rfl|exact ⟨_,rfl,rfl⟩|exact ⟨rfl,rfl,rfl⟩|exact of_decide_eq_true rfl|exact trivial|assumption|omega|(show (_ ≤ _ ∧ _ ≤ _); omega)|(simp; omega)|exact ⟨by first|omega|(simp; omega),_,rfl,rfl⟩) ?_|refine Quo.l (And.intro (by first|exact rfl|assumption|omega|(simp; omega)) ?_)|refine Quo.r (And.intro (by omega) ?_)|refine Both.mk ?_ ?_|refine Exists.intro _ (And.intro rfl ?_)|refine opt_use (by assumption) ?_|refine vrow_use (by assumption) ?_|refine vrow_in (fun _ _=>?_)|refine fun _=>?_))|exact rfl)
    · rename_i q0 w hw
      obtain rfl : w = u := by
        rw [e2, Int.toNat_natCast, hu] at hw
        exact (Option.some.inj hw).symm
      refine And.intro hpu ?_
      repeat' (first|((conv=>whnf); (first|refine draw_plan (id := 2) [] [] (.take 0 (.take 1 (.take 2 (.take 3 (.take 4 (.take 5 (.take 6 (.take 7 (.run 8 (.take 9 (.take 10 .done))))))))))) (by kernel_rfl) (by kernel_rfl) ?_|refine draw_plan (id := 10) [] [] (.take 0 (.take 1 (.take 2 (.take 3 (.take 4 (.take 5 (.take 6 (.take 7 (.take 8 (.take 9 (.run 10 (.take 11 .done)))))))))))) (by kernel_rfl) (by kernel_rfl) ?_|refine brK_dec (fun _=>?_) (fun _=>?_)|refine brK_ndec (fun _=>?_) (fun _=>?_)|refine brK_not (fun _=>?_) (fun _=>?_)|refine brK_in (fun _=>?_) (fun _=>?_)|refine And.intro (by first|exact rfl|exact ⟨_,rfl,rfl⟩|exact ⟨rfl,rfl,rfl⟩|exact of_decide_eq_true rfl|exact trivial|assumption|omega|(show (_ ≤ _ ∧ _ ≤ _); omega)|(simp; omega)|exact ⟨by first|omega|(simp; omega),_,rfl,rfl⟩) ?_|refine Quo.l (And.intro (by first|exact rfl|assumption|omega|(simp; omega)) ?_)|refine Quo.r (And.intro (by omega) ?_)|refine Both.mk ?_ ?_|refine Exists.intro _ (And.intro rfl ?_)|refine opt_use (by assumption) ?_|refine vrow_use (by assumption) ?_|refine vrow_in (fun _ _=>?_)|refine fun _=>?_))|exact rfl)
      · rename_i q
        rw [if_pos (show sameV w ⟨r, a, p, d⟩ = true from decide_eq_true q)] at h
        exact h
      · rename_i q q2
        rw [if_neg (show ¬ sameV w ⟨r, a, p, d⟩ = true from fun e => q (of_decide_eq_true e))] at h
        exact h
      all_goals (exfalso; omega)
    all_goals (exfalso; omega)
  · have e4 : addV g ⟨r, a, p, d⟩ = if parB g ⟨r, a, p, d⟩ = true then (insV g (plcV g ⟨r, a, p, d⟩) ⟨r, a, p, d⟩, 0) else (g, 3) := by
      unfold addV
      rw [e1]
    rw [e4] at h
    repeat' (first|((conv=>whnf); (first|refine draw_plan (id := 2) [] [] (.take 0 (.take 1 (.take 2 (.take 3 (.take 4 (.take 5 (.take 6 (.take 7 (.run 8 (.take 9 (.take 10 .done))))))))))) (by kernel_rfl) (by kernel_rfl) ?_|refine draw_plan (id := 10) [] [] (.take 0 (.take 1 (.take 2 (.take 3 (.take 4 (.take 5 (.take 6 (.take 7 (.take 8 (.take 9 (.run 10 (.take 11 .done)))))))))))) (by kernel_rfl) (by kernel_rfl) ?_|refine brK_dec (fun _=>?_) (fun _=>?_)|refine brK_ndec (fun _=>?_) (fun _=>?_)|refine brK_not (fun _=>?_) (fun _=>?_)|refine brK_in (fun _=>?_) (fun _=>?_)|refine And.intro (by first|exact rfl|exact ⟨_,rfl,rfl⟩|exact ⟨rfl,rfl,rfl⟩|exact of_decide_eq_true rfl|exact trivial|assumption|omega|(show (_ ≤ _ ∧ _ ≤ _); omega)|(simp; omega)|exact ⟨by first|omega|(simp; omega),_,rfl,rfl⟩) ?_|refine Quo.l (And.intro (by first|exact rfl|assumption|omega|(simp; omega)) ?_)|refine Quo.r (And.intro (by omega) ?_)|refine Both.mk ?_ ?_|refine Exists.intro _ (And.intro rfl ?_)|refine opt_use (by assumption) ?_|refine vrow_use (by assumption) ?_|refine vrow_in (fun _ _=>?_)|refine fun _=>?_))|exact rfl)
    all_goals try (exfalso; omega)
    · rename_i q1 q2 q3
      rw [if_neg (by rw [q3]; simp)] at h
      exact h
    rename_i q1 q2 q3
    rw [if_pos q3] at h
    refine loop_in (ι := Nat) (fun i => mkS 77 [(0, .sl 4 (g.map VxD.row)), (3, .ptr 0 0), (7, .own 1), (8, I i)] [.cells [I r, I a, .ints p, I d], .arr 4 ((g.take i).map VxD.row)] Fs) (fun i => i ≤ g.length ∧ ∀ (j : Nat) u, j < i → g[j]? = some u → ltB u ⟨r, a, p, d⟩ = true) (fun i => g.length - i) 0 [0, 1] ⟨Nat.zero_le _, fun j u hj => absurd hj (by omega)⟩ ?_ ?_
    · repeat' (first|((conv=>whnf); (first|refine brK_dec (fun _=>?_) (fun _=>?_)|refine brK_ndec (fun _=>?_) (fun _=>?_)|refine brK_not (fun _=>?_) (fun _=>?_)|refine brK_in (fun _=>?_) (fun _=>?_)|refine And.intro (by first|exact rfl|exact ⟨_,rfl,rfl⟩|exact ⟨rfl,rfl,rfl⟩|exact of_decide_eq_true rfl|exact trivial|assumption|omega|(show (_ ≤ _ ∧ _ ≤ _); omega)|(simp; omega)|exact ⟨by first|omega|(simp; omega),_,rfl,rfl⟩) ?_|refine Quo.l (And.intro (by first|exact rfl|assumption|omega|(simp; omega)) ?_)|refine Quo.r (And.intro (by omega) ?_)|refine Both.mk ?_ ?_|refine Exists.intro _ (And.intro rfl ?_)|refine opt_use (by assumption) ?_|refine vrow_use (by assumption) ?_|refine vrow_in (fun _ _=>?_)|refine fun _=>?_))|exact rfl)
    intro i ⟨hi, hall⟩
    have hl2 : ((g.take i).map VxD.row).length = i := by simp; omega
    repeat' (first|((conv=>whnf); (first|refine draw_plan (id := 2) [] [] (.take 0 (.take 1 (.take 2 (.take 3 (.take 4 (.take 5 (.take 6 (.take 7 (.run 8 (.take 9 (.take 10 .done))))))))))) (by kernel_rfl) (by kernel_rfl) ?_|refine draw_plan (id := 10) [] [] (.take 0 (.take 1 (.take 2 (.take 3 (.take 4 (.take 5 (.take 6 (.take 7 (.take 8 (.take 9 (.run 10 (.take 11 .done)))))))))))) (by kernel_rfl) (by kernel_rfl) ?_|refine brK_dec (fun _=>?_) (fun _=>?_)|refine brK_ndec (fun _=>?_) (fun _=>?_)|refine brK_not (fun _=>?_) (fun _=>?_)|refine brK_in (fun _=>?_) (fun _=>?_)|refine And.intro (by first|exact rfl|exact (by first|exact Nat.le_trans (Nat.mul_le_mul_right _ (show _ ≤ 2000001 from by simp [chunks]; omega)) (by decide)|(simp [chunks]; omega))|exact ⟨_,rfl,rfl⟩|exact ⟨rfl,rfl,rfl⟩|exact of_decide_eq_true rfl|exact trivial|assumption|omega|(show (_ ≤ _ ∧ _ ≤ _); omega)|(simp; omega)|exact ⟨by first|omega|(simp; omega),_,rfl,rfl⟩) ?_|refine Quo.l (And.intro (by first|exact rfl|exact (by first|exact Nat.le_trans (Nat.mul_le_mul_right _ (show _ ≤ 2000001 from by simp [chunks]; omega)) (by decide)|(simp [chunks]; omega))|assumption|omega|(simp; omega)) ?_)|refine Quo.r (And.intro (by omega) ?_)|refine Both.mk ?_ ?_|refine Exists.intro _ (And.intro rfl ?_)|refine opt_use (by assumption) ?_|refine vrow_use (by assumption) ?_|refine vrow_in (fun _ _=>?_)|refine fun _=>?_))|exact rfl)
    · rename_i hil v hv hlt
      have hv : g[i]? = some v := hv
      refine And.intro (hp v (List.mem_of_getElem? hv)) ?_
      repeat' (first|((conv=>whnf); (first|refine draw_plan (id := 2) [] [] (.take 0 (.take 1 (.take 2 (.take 3 (.take 4 (.take 5 (.take 6 (.take 7 (.run 8 (.take 9 (.take 10 .done))))))))))) (by kernel_rfl) (by kernel_rfl) ?_|refine draw_plan (id := 10) [] [] (.take 0 (.take 1 (.take 2 (.take 3 (.take 4 (.take 5 (.take 6 (.take 7 (.take 8 (.take 9 (.run 10 (.take 11 .done)))))))))))) (by kernel_rfl) (by kernel_rfl) ?_|refine brK_dec (fun _=>?_) (fun _=>?_)|refine brK_ndec (fun _=>?_) (fun _=>?_)|refine brK_not (fun _=>?_) (fun _=>?_)|refine brK_in (fun _=>?_) (fun _=>?_)|refine And.intro (by first|exact rfl|exact (by first|exact Nat.le_trans (Nat.mul_le_mul_right _ (show _ ≤ 2000001 from by simp [chunks]; omega)) (by decide)|(simp [chunks]; omega))|exact ⟨_,rfl,rfl⟩|exact ⟨rfl,rfl,rfl⟩|exact of_decide_eq_true rfl|exact trivial|assumption|omega|(show (_ ≤ _ ∧ _ ≤ _); omega)|(simp; omega)|exact ⟨by first|omega|(simp; omega),_,rfl,rfl⟩) ?_|refine Quo.l (And.intro (by first|exact rfl|exact (by first|exact Nat.le_trans (Nat.mul_le_mul_right _ (show _ ≤ 2000001 from by simp [chunks]; omega)) (by decide)|(simp [chunks]; omega))|assumption|omega|(simp; omega)) ?_)|refine Quo.r (And.intro (by omega) ?_)|refine Both.mk ?_ ?_|refine Exists.intro _ (And.intro rfl ?_)|refine opt_use (by assumption) ?_|refine vrow_use (by assumption) ?_|refine vrow_in (fun _ _=>?_)|refine fun _=>?_))|exact rfl)
      refine ⟨i + 1, [0, 1], ⟨by omega, fun j u hj hu => ?_⟩, by omega, ?_⟩
      · rcases Nat.lt_or_ge j i with h1 | h1
        · exact hall j u h1 hu
        · obtain rfl : j = i := by omega
          rw [hv] at hu
          cases hu
          exact hlt
      repeat' (first|((conv=>whnf); (first|refine brK_dec (fun _=>?_) (fun _=>?_)|refine brK_ndec (fun _=>?_) (fun _=>?_)|refine brK_not (fun _=>?_) (fun _=>?_)|refine brK_in (fun _=>?_) (fun _=>?_)|refine And.intro (by first|exact rfl|exact (by rw [List.take_length,List.take_add_one,hv,List.map_append]; rfl)|exact ⟨_,rfl,rfl⟩|exact ⟨rfl,rfl,rfl⟩|exact of_decide_eq_true rfl|exact trivial|assumption|omega|(show (_ ≤ _ ∧ _ ≤ _); omega)|(simp; omega)|exact ⟨by first|omega|(simp; omega),_,rfl,rfl⟩) ?_|refine Quo.l (And.intro (by first|exact rfl|exact (by rw [List.take_length,List.take_add_one,hv,List.map_append]; rfl)|assumption|omega|(simp; omega)) ?_)|refine Quo.r (And.intro (by omega) ?_)|refine Both.mk ?_ ?_|refine Exists.intro _ (And.intro rfl ?_)|refine opt_use (by assumption) ?_|refine vrow_use (by assumption) ?_|refine vrow_in (fun _ _=>?_)|refine fun _=>?_))|exact rfl)
    · rename_i hil v hv hlt
      have hv : g[i]? = some v := hv
      have e5 : plcV g ⟨r, a, p, d⟩ = i := plc_is hi hall fun u hu => by
        rw [hv] at hu
        cases hu
        exact hlt
      rw [e5] at h
      repeat' (first|((conv=>whnf); (first|refine draw_plan (id := 2) [] [] (.take 0 (.take 1 (.take 2 (.take 3 (.take 4 (.take 5 (.take 6 (.take 7 (.run 8 (.take 9 (.take 10 .done))))))))))) (by kernel_rfl) (by kernel_rfl) ?_|refine draw_plan (id := 10) [] [] (.take 0 (.take 1 (.take 2 (.take 3 (.take 4 (.take 5 (.take 6 (.take 7 (.take 8 (.take 9 (.run 10 (.take 11 .done)))))))))))) (by kernel_rfl) (by kernel_rfl) ?_|refine brK_dec (fun _=>?_) (fun _=>?_)|refine brK_ndec (fun _=>?_) (fun _=>?_)|refine brK_not (fun _=>?_) (fun _=>?_)|refine brK_in (fun _=>?_) (fun _=>?_)|refine And.intro (by first|exact rfl|exact (by first|exact Nat.le_trans (Nat.mul_le_mul_right _ (show _ ≤ 2000001 from by simp [chunks]; omega)) (by decide)|(simp [chunks]; omega))|exact ⟨_,rfl,rfl⟩|exact ⟨rfl,rfl,rfl⟩|exact of_decide_eq_true rfl|exact trivial|assumption|omega|(show (_ ≤ _ ∧ _ ≤ _); omega)|(simp; omega)|exact ⟨by first|omega|(simp; omega),_,rfl,rfl⟩) ?_|refine Quo.l (And.intro (by first|exact rfl|exact (by first|exact Nat.le_trans (Nat.mul_le_mul_right _ (show _ ≤ 2000001 from by simp [chunks]; omega)) (by decide)|(simp [chunks]; omega))|assumption|omega|(simp; omega)) ?_)|refine Quo.r (And.intro (by omega) ?_)|refine Both.mk ?_ ?_|refine Exists.intro _ (And.intro rfl ?_)|refine opt_use (by assumption) ?_|refine vrow_use (by assumption) ?_|refine vrow_in (fun _ _=>?_)|refine fun _=>?_))|exact rfl)
      refine ⟨g.drop i, by rw [hl2, hlen, Int.toNat_natCast, List.map_drop, List.take_of_length_le (by simp)], by simp; omega, fun v hv => hp v (List.mem_of_mem_drop hv), ?_⟩
      repeat' (first|((conv=>whnf); (first|refine draw_plan (id := 2) [] [] (.take 0 (.take 1 (.take 2 (.take 3 (.take 4 (.take 5 (.take 6 (.take 7 (.run 8 (.take 9 (.take 10 .done))))))))))) (by kernel_rfl) (by kernel_rfl) ?_|refine draw_plan (id := 10) [] [] (.take 0 (.take 1 (.take 2 (.take 3 (.take 4 (.take 5 (.take 6 (.take 7 (.take 8 (.take 9 (.run 10 (.take 11 .done)))))))))))) (by kernel_rfl) (by kernel_rfl) ?_|refine brK_dec (fun _=>?_) (fun _=>?_)|refine brK_ndec (fun _=>?_) (fun _=>?_)|refine brK_not (fun _=>?_) (fun _=>?_)|refine brK_in (fun _=>?_) (fun _=>?_)|refine And.intro (by first|exact rfl|exact (by first|exact Nat.le_trans (Nat.mul_le_mul_right _ (show _ ≤ 2000001 from by simp [chunks]; omega)) (by decide)|(simp [chunks]; omega))|exact ⟨_,rfl,rfl⟩|exact ⟨rfl,rfl,rfl⟩|exact of_decide_eq_true rfl|exact trivial|assumption|omega|(show (_ ≤ _ ∧ _ ≤ _); omega)|(simp; omega)|exact ⟨by first|omega|(simp; omega),_,rfl,rfl⟩) ?_|refine Quo.l (And.intro (by first|exact rfl|exact (by first|exact Nat.le_trans (Nat.mul_le_mul_right _ (show _ ≤ 2000001 from by simp [chunks]; omega)) (by decide)|(simp [chunks]; omega))|assumption|omega|(simp; omega)) ?_)|refine Quo.r (And.intro (by omega) ?_)|refine Both.mk ?_ ?_|refine Exists.intro _ (And.intro rfl ?_)|refine opt_use (by assumption) ?_|refine vrow_use (by assumption) ?_|refine vrow_in (fun _ _=>?_)|refine fun _=>?_))|exact rfl)
      have e6 : ∀ R, R = (insV g i ⟨r, a, p, d⟩).map VxD.row → K (.tup [.own 0, I 0]) [.arr 4 R] [] := fun R hR => by
        rw [hR]
        exact h
      refine e6 _ ?_
      rw [List.take_length, List.take_length]
      show (List.take i g).map VxD.row ++ [[I r, I a, .ints p, I d]] ++ (g.drop i).map VxD.row = _
      rw [insV, List.map_append, List.map_cons, List.append_assoc]
      rfl
    · rename_i hil
      have e5 : plcV g ⟨r, a, p, d⟩ = i := plc_is hi hall fun u hu => by
        have := (List.getElem?_eq_some_iff.1 hu).1
        omega
      rw [e5] at h
      repeat' (first|((conv=>whnf); (first|refine draw_plan (id := 2) [] [] (.take 0 (.take 1 (.take 2 (.take 3 (.take 4 (.take 5 (.take 6 (.take 7 (.run 8 (.take 9 (.take 10 .done))))))))))) (by kernel_rfl) (by kernel_rfl) ?_|refine draw_plan (id := 10) [] [] (.take 0 (.take 1 (.take 2 (.take 3 (.take 4 (.take 5 (.take 6 (.take 7 (.take 8 (.take 9 (.run 10 (.take 11 .done)))))))))))) (by kernel_rfl) (by kernel_rfl) ?_|refine brK_dec (fun _=>?_) (fun _=>?_)|refine brK_ndec (fun _=>?_) (fun _=>?_)|refine brK_not (fun _=>?_) (fun _=>?_)|refine brK_in (fun _=>?_) (fun _=>?_)|refine And.intro (by first|exact rfl|exact (by first|exact Nat.le_trans (Nat.mul_le_mul_right _ (show _ ≤ 2000001 from by simp [chunks]; omega)) (by decide)|(simp [chunks]; omega))|exact ⟨_,rfl,rfl⟩|exact ⟨rfl,rfl,rfl⟩|exact of_decide_eq_true rfl|exact trivial|assumption|omega|(show (_ ≤ _ ∧ _ ≤ _); omega)|(simp; omega)|exact ⟨by first|omega|(simp; omega),_,rfl,rfl⟩) ?_|refine Quo.l (And.intro (by first|exact rfl|exact (by first|exact Nat.le_trans (Nat.mul_le_mul_right _ (show _ ≤ 2000001 from by simp [chunks]; omega)) (by decide)|(simp [chunks]; omega))|assumption|omega|(simp; omega)) ?_)|refine Quo.r (And.intro (by omega) ?_)|refine Both.mk ?_ ?_|refine Exists.intro _ (And.intro rfl ?_)|refine opt_use (by assumption) ?_|refine vrow_use (by assumption) ?_|refine vrow_in (fun _ _=>?_)|refine fun _=>?_))|exact rfl)
      refine ⟨g.drop i, by rw [hl2, hlen, Int.toNat_natCast, List.map_drop, List.take_of_length_le (by simp)], by simp; omega, fun v hv => hp v (List.mem_of_mem_drop hv), ?_⟩
      repeat' (first|((conv=>whnf); (first|refine draw_plan (id := 2) [] [] (.take 0 (.take 1 (.take 2 (.take 3 (.take 4 (.take 5 (.take 6 (.take 7 (.run 8 (.take 9 (.take 10 .done))))))))))) (by kernel_rfl) (by kernel_rfl) ?_|refine draw_plan (id := 10) [] [] (.take 0 (.take 1 (.take 2 (.take 3 (.take 4 (.take 5 (.take 6 (.take 7 (.take 8 (.take 9 (.run 10 (.take 11 .done)))))))))))) (by kernel_rfl) (by kernel_rfl) ?_|refine brK_dec (fun _=>?_) (fun _=>?_)|refine brK_ndec (fun _=>?_) (fun _=>?_)|refine brK_not (fun _=>?_) (fun _=>?_)|refine brK_in (fun _=>?_) (fun _=>?_)|refine And.intro (by first|exact rfl|exact (by first|exact Nat.le_trans (Nat.mul_le_mul_right _ (show _ ≤ 2000001 from by simp [chunks]; omega)) (by decide)|(simp [chunks]; omega))|exact ⟨_,rfl,rfl⟩|exact ⟨rfl,rfl,rfl⟩|exact of_decide_eq_true rfl|exact trivial|assumption|omega|(show (_ ≤ _ ∧ _ ≤ _); omega)|(simp; omega)|exact ⟨by first|omega|(simp; omega),_,rfl,rfl⟩) ?_|refine Quo.l (And.intro (by first|exact rfl|exact (by first|exact Nat.le_trans (Nat.mul_le_mul_right _ (show _ ≤ 2000001 from by simp [chunks]; omega)) (by decide)|(simp [chunks]; omega))|assumption|omega|(simp; omega)) ?_)|refine Quo.r (And.intro (by omega) ?_)|refine Both.mk ?_ ?_|refine Exists.intro _ (And.intro rfl ?_)|refine opt_use (by assumption) ?_|refine vrow_use (by assumption) ?_|refine vrow_in (fun _ _=>?_)|refine fun _=>?_))|exact rfl)
      have e6 : ∀ R, R = (insV g i ⟨r, a, p, d⟩).map VxD.row → K (.tup [.own 0, I 0]) [.arr 4 R] [] := fun R hR => by
        rw [hR]
        exact h
      refine e6 _ ?_
      rw [List.take_length, List.take_length]
      show (List.take i g).map VxD.row ++ [[I r, I a, .ints p, I d]] ++ (g.drop i).map VxD.row = _
      rw [insV, List.map_append, List.map_cons, List.append_assoc]
      rfl
def c_spec_GraphAdd : Con := ⟨1, 0, true, fun xs hs _ K => match xs with
  | [.ints c, .sl 4 rows, .agg [.val (.int .i64 r), .val (.int .i64 a), .ints p, .val (.int .i64 d)]] => hs = [] ∧ ∃ g : List VxD, rows = g.map VxD.row ∧ c.length < 2000000 ∧ g.length < 1000000 ∧ (∀ v ∈ g, v.p.length < 2000000) ∧ p.length < 2000000 ∧
      K (.tup [.own 0, I (addI c g ⟨r, a, p, d⟩).2]) [.arr 4 ((addI c g ⟨r, a, p, d⟩).1.map VxD.row)] []
  | _ => False⟩
theorem k_spec_GraphAdd : Keeps' Try.prog 15 c_spec_GraphAdd := by
  refine keeps_of_vc mix TyT_ok (cok_cons k_spec_GraphValid Try.func38 rfl rfl (cok_cons k_spec_l11Vertex Try.func49 rfl rfl (cok_cons k_spec_l11Add Try.func50 rfl rfl cok_nil))) Try.func15 rfl rfl rfl ?_
  intro aargs hs Fs K h
  simp only [c_spec_GraphAdd] at h
  split at h
  case h_2 => exact h.elim
  rename_i c rows r a p d
  obtain ⟨rfl, g, rfl, hc, hg, hp, hp2, h⟩ := h
  repeat' (first|((conv=>whnf); (first|refine brK_dec (fun _=>?_) (fun _=>?_)|refine brK_ndec (fun _=>?_) (fun _=>?_)|refine brK_not (fun _=>?_) (fun _=>?_)|refine brK_in (fun _=>?_) (fun _=>?_)|refine And.intro (by first|exact rfl|exact ⟨_,rfl,rfl⟩|exact ⟨rfl,rfl,rfl⟩|exact of_decide_eq_true rfl|exact trivial|assumption|omega|(show (_ ≤ _ ∧ _ ≤ _); omega)|(simp; omega)|exact ⟨by first|omega|(simp; omega),_,rfl,rfl⟩) ?_|refine Quo.l (And.intro (by first|exact rfl|assumption|omega|(simp; omega)) ?_)|refine Quo.r (And.intro (by omega) ?_)|refine Both.mk ?_ ?_|refine Exists.intro _ (And.intro rfl ?_)|refine opt_use (by assumption) ?_|refine vrow_use (by assumption) ?_|refine vrow_in (fun _ _=>?_)|refine fun _=>?_))|exact rfl)
  · rename_i q
    have e : addI c g ⟨r, a, p, d⟩ = ([], 4) := by
      rw [addI, q]
      rfl
    rw [e] at h
    exact h
  rename_i q
  refine And.intro (gV_com2 q) ?_
  repeat' (first|((conv=>whnf); (first|refine brK_dec (fun _=>?_) (fun _=>?_)|refine brK_ndec (fun _=>?_) (fun _=>?_)|refine brK_not (fun _=>?_) (fun _=>?_)|refine brK_in (fun _=>?_) (fun _=>?_)|refine And.intro (by first|exact rfl|exact ⟨_,rfl,rfl⟩|exact ⟨rfl,rfl,rfl⟩|exact of_decide_eq_true rfl|exact trivial|assumption|omega|(show (_ ≤ _ ∧ _ ≤ _); omega)|(simp; omega)|exact ⟨by first|omega|(simp; omega),_,rfl,rfl⟩) ?_|refine Quo.l (And.intro (by first|exact rfl|assumption|omega|(simp; omega)) ?_)|refine Quo.r (And.intro (by omega) ?_)|refine Both.mk ?_ ?_|refine Exists.intro _ (And.intro rfl ?_)|refine opt_use (by assumption) ?_|refine vrow_use (by assumption) ?_|refine vrow_in (fun _ _=>?_)|refine fun _=>?_))|exact rfl)
  · rename_i q2
    have e : addI c g ⟨r, a, p, d⟩ = ([], 4) := by
      rw [addI, q2, Bool.and_false]
      rfl
    rw [e] at h
    exact h
  rename_i q2
  have e : addI c g ⟨r, a, p, d⟩ = addV g ⟨r, a, p, d⟩ := by
    rw [addI, q, q2]
    rfl
  rw [e] at h
  have hr : 0 ≤ r ∧ r ≤ 30 := (vx_out q2).1
  refine And.intro ⟨by omega, by omega⟩ ?_
  repeat' (first|((conv=>whnf); (first|refine brK_dec (fun _=>?_) (fun _=>?_)|refine brK_ndec (fun _=>?_) (fun _=>?_)|refine brK_not (fun _=>?_) (fun _=>?_)|refine brK_in (fun _=>?_) (fun _=>?_)|refine And.intro (by first|exact rfl|exact ⟨_,rfl,rfl⟩|exact ⟨rfl,rfl,rfl⟩|exact of_decide_eq_true rfl|exact trivial|assumption|omega|(show (_ ≤ _ ∧ _ ≤ _); omega)|(simp; omega)|exact ⟨by first|omega|(simp; omega),_,rfl,rfl⟩) ?_|refine Quo.l (And.intro (by first|exact rfl|assumption|omega|(simp; omega)) ?_)|refine Quo.r (And.intro (by omega) ?_)|refine Both.mk ?_ ?_|refine Exists.intro _ (And.intro rfl ?_)|refine opt_use (by assumption) ?_|refine vrow_use (by assumption) ?_|refine vrow_in (fun _ _=>?_)|refine fun _=>?_))|exact rfl)
  exact h
end Go.Proofs.Ytalbgcpfekmfoaa
