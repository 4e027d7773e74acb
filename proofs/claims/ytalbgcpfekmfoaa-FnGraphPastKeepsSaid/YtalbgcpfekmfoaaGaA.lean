/-
Vertices copied and compared by the reference.
No conditions.
-/
import Derived.Test.YtalbgcpfekmfoaaWgX
import Derived.Test.YtalbgcpfekmfoaaGaS
namespace Go.Proofs.Ytalbgcpfekmfoaa
open Go Go.Vc
set_option maxHeartbeats 2000000
set_option maxRecDepth 10000
def c_spec_l11One : Con := ⟨1, 0, false, fun xs hs _ K => match xs with
  | [.agg [.val (.int .i64 r), .val (.int .i64 a), .ints p, .val (.int .i64 d)]] => hs = [] ∧ p.length < 2000000 ∧ K (.agg [I r, I a, .own 0, I d]) [.iarr p] []
  | _ => False⟩
theorem k_spec_l11One : Keeps' Try.prog 74 c_spec_l11One := by
  refine keeps_of_vc mix TyT_ok cok_nil Try.func74 rfl rfl rfl ?_
  intro aargs hs Fs K h
  simp only [c_spec_l11One] at h
  split at h
  case h_2 => exact h.elim
  rename_i r a p d
  obtain ⟨rfl, hp, h⟩ := h
  repeat' (first|((conv=>whnf); (first|refine brK_dec (fun _=>?_) (fun _=>?_)|refine brK_ndec (fun _=>?_) (fun _=>?_)|refine brK_not (fun _=>?_) (fun _=>?_)|refine brK_in (fun _=>?_) (fun _=>?_)|refine And.intro (by first|exact rfl|exact (by first|exact Nat.le_trans (Nat.mul_le_mul_right _ (show _ ≤ 2000001 from by simp; omega)) (by decide)|(simp; omega))|exact ⟨_,rfl,rfl⟩|exact ⟨rfl,rfl,rfl⟩|exact of_decide_eq_true rfl|exact trivial|assumption|omega|(show (_ ≤ _ ∧ _ ≤ _); omega)|(simp; omega)|exact ⟨by first|omega|(simp; omega),_,rfl,rfl⟩) ?_|refine Quo.l (And.intro (by first|exact rfl|exact (by first|exact Nat.le_trans (Nat.mul_le_mul_right _ (show _ ≤ 2000001 from by simp; omega)) (by decide)|(simp; omega))|assumption|omega|(simp; omega)) ?_)|refine Quo.r (And.intro (by omega) ?_)|refine Both.mk ?_ ?_|refine Exists.intro _ (And.intro rfl ?_)|refine opt_use (by assumption) ?_|refine vrow_use (by assumption) ?_|refine vrow_in (fun _ _=>?_)|refine fun _=>?_))|exact rfl)
  exact h
def c_spec_l11Copy : Con := ⟨1, 0, true, fun xs hs _ K => match xs with
  | [.sl 4 rows] => hs = [] ∧ ∃ g : List VxD, rows = g.map VxD.row ∧ g.length < 2000000 ∧ (∀ v ∈ g, v.p.length < 2000000) ∧ K (.own 0) [.arr 4 (g.map VxD.row)] []
  | _ => False⟩
theorem k_spec_l11Copy : Keeps' Try.prog 89 c_spec_l11Copy := by
  refine keeps_of_vc mix TyT_ok (cok_cons k_spec_l11One Try.func74 rfl rfl cok_nil) Try.func89 rfl rfl rfl ?_
  intro aargs hs Fs K h
  simp only [c_spec_l11Copy] at h
  split at h
  case h_2 => exact h.elim
  rename_i rows
  obtain ⟨rfl, g, rfl, hg, hp, h⟩ := h
  have hlen : (g.map VxD.row).length = g.length := by simp
  repeat' (first|((conv=>whnf); (first|refine brK_dec (fun _=>?_) (fun _=>?_)|refine brK_ndec (fun _=>?_) (fun _=>?_)|refine brK_not (fun _=>?_) (fun _=>?_)|refine brK_in (fun _=>?_) (fun _=>?_)|refine And.intro (by first|exact rfl|exact ⟨_,rfl,rfl⟩|exact ⟨rfl,rfl,rfl⟩|exact of_decide_eq_true rfl|exact trivial|assumption|omega|(show (_ ≤ _ ∧ _ ≤ _); omega)|(simp; omega)|exact ⟨by first|omega|(simp; omega),_,rfl,rfl⟩) ?_|refine Quo.l (And.intro (by first|exact rfl|assumption|omega|(simp; omega)) ?_)|refine Quo.r (And.intro (by omega) ?_)|refine Both.mk ?_ ?_|refine Exists.intro _ (And.intro rfl ?_)|refine opt_use (by assumption) ?_|refine vrow_use (by assumption) ?_|refine vrow_in (fun _ _=>?_)|refine fun _=>?_))|exact rfl)
  refine loop_in (ι := Nat) (fun i => mkS 21 [(0, .sl 4 (g.map VxD.row)), (2, .val (.slice none 0 0)), (3, .own 0), (4, I i)] [.arr 4 ((g.take i).map VxD.row)] Fs) (fun i => i ≤ g.length) (fun i => g.length - i) 0 [0] (Nat.zero_le _) ?_ ?_
  · repeat' (first|((conv=>whnf); (first|refine brK_dec (fun _=>?_) (fun _=>?_)|refine brK_ndec (fun _=>?_) (fun _=>?_)|refine brK_not (fun _=>?_) (fun _=>?_)|refine brK_in (fun _=>?_) (fun _=>?_)|refine And.intro (by first|exact rfl|exact ⟨_,rfl,rfl⟩|exact ⟨rfl,rfl,rfl⟩|exact of_decide_eq_true rfl|exact trivial|assumption|omega|(show (_ ≤ _ ∧ _ ≤ _); omega)|(simp; omega)|exact ⟨by first|omega|(simp; omega),_,rfl,rfl⟩) ?_|refine Quo.l (And.intro (by first|exact rfl|assumption|omega|(simp; omega)) ?_)|refine Quo.r (And.intro (by omega) ?_)|refine Both.mk ?_ ?_|refine Exists.intro _ (And.intro rfl ?_)|refine opt_use (by assumption) ?_|refine vrow_use (by assumption) ?_|refine vrow_in (fun _ _=>?_)|refine fun _=>?_))|exact rfl)
  intro i hi
  have hl2 : ((g.take i).map VxD.row).length = i := by simp; omega
  repeat' (first|((conv=>whnf); (first|refine brK_dec (fun _=>?_) (fun _=>?_)|refine brK_ndec (fun _=>?_) (fun _=>?_)|refine brK_not (fun _=>?_) (fun _=>?_)|refine brK_in (fun _=>?_) (fun _=>?_)|refine And.intro (by first|exact rfl|exact ⟨_,rfl,rfl⟩|exact ⟨rfl,rfl,rfl⟩|exact of_decide_eq_true rfl|exact trivial|assumption|omega|(show (_ ≤ _ ∧ _ ≤ _); omega)|(simp; omega)|exact ⟨by first|omega|(simp; omega),_,rfl,rfl⟩) ?_|refine Quo.l (And.intro (by first|exact rfl|assumption|omega|(simp; omega)) ?_)|refine Quo.r (And.intro (by omega) ?_)|refine Both.mk ?_ ?_|refine Exists.intro _ (And.intro rfl ?_)|refine opt_use (by assumption) ?_|refine vrow_use (by assumption) ?_|refine vrow_in (fun _ _=>?_)|refine fun _=>?_))|exact rfl)
  · rename_i hil v hv
    have hv : g[i]? = some v := hv
    have hpv := hp v (List.mem_of_getElem? hv)
    repeat' (first|((conv=>whnf); (first|refine brK_dec (fun _=>?_) (fun _=>?_)|refine brK_ndec (fun _=>?_) (fun _=>?_)|refine brK_not (fun _=>?_) (fun _=>?_)|refine brK_in (fun _=>?_) (fun _=>?_)|refine And.intro (by first|exact rfl|exact (by first|exact Nat.le_trans (Nat.mul_le_mul_right _ (show _ ≤ 2000001 from by simp [chunks]; omega)) (by decide)|(simp [chunks]; omega))|exact ⟨_,rfl,rfl⟩|exact ⟨rfl,rfl,rfl⟩|exact of_decide_eq_true rfl|exact trivial|assumption|omega|(show (_ ≤ _ ∧ _ ≤ _); omega)|(simp; omega)|exact ⟨by first|omega|(simp; omega),_,rfl,rfl⟩) ?_|refine Quo.l (And.intro (by first|exact rfl|exact (by first|exact Nat.le_trans (Nat.mul_le_mul_right _ (show _ ≤ 2000001 from by simp [chunks]; omega)) (by decide)|(simp [chunks]; omega))|assumption|omega|(simp; omega)) ?_)|refine Quo.r (And.intro (by omega) ?_)|refine Both.mk ?_ ?_|refine Exists.intro _ (And.intro rfl ?_)|refine opt_use (by assumption) ?_|refine vrow_use (by assumption) ?_|refine vrow_in (fun _ _=>?_)|refine fun _=>?_))|exact rfl)
    refine ⟨i + 1, [0], by omega, by omega, ?_⟩
    repeat' (first|((conv=>whnf); (first|refine brK_dec (fun _=>?_) (fun _=>?_)|refine brK_ndec (fun _=>?_) (fun _=>?_)|refine brK_not (fun _=>?_) (fun _=>?_)|refine brK_in (fun _=>?_) (fun _=>?_)|refine And.intro (by first|exact rfl|exact (by rw [List.take_length,List.take_add_one,hv,List.map_append]; rfl)|exact ⟨_,rfl,rfl⟩|exact ⟨rfl,rfl,rfl⟩|exact of_decide_eq_true rfl|exact trivial|assumption|omega|(show (_ ≤ _ ∧ _ ≤ _); omega)|(simp; omega)|exact ⟨by first|omega|(simp; omega),_,rfl,rfl⟩) ?_|refine Quo.l (And.intro (by first|exact rfl|exact (by rw [List.take_length,List.take_add_one,hv,List.map_append]; rfl)|assumption|omega|(simp; omega)) ?_)|refine Quo.r (And.intro (by omega) ?_)|refine Both.mk ?_ ?_|refine Exists.intro _ (And.intro rfl ?_)|refine opt_use (by assumption) ?_|refine vrow_use (by assumption) ?_|refine vrow_in (fun _ _=>?_)|refine fun _=>?_))|exact rfl)
  · rename_i hil
    have e : i = g.length := by omega
    subst e
    rw [List.take_length] at *
    exact h
def sameV (v w : VxD) : Bool := decide (v = w)
def c_spec_l11Same : Con := ⟨0, 0, false, fun xs hs _ K => match xs with
  | [.agg [.val (.int .i64 r), .val (.int .i64 a), .ints p, .val (.int .i64 d)], .agg [.val (.int .i64 r'), .val (.int .i64 a'), .ints p', .val (.int .i64 d')]] => hs = [] ∧ p.length < 2000000 ∧ p'.length < 2000000 ∧ K (B (sameV ⟨r, a, p, d⟩ ⟨r', a', p', d'⟩)) [] []
  | _ => False⟩
theorem k_spec_l11Same : Keeps' Try.prog 88 c_spec_l11Same := by
  refine keeps_of_vc mix TyT_ok cok_nil Try.func88 rfl rfl rfl ?_
  intro aargs hs Fs K h
  simp only [c_spec_l11Same] at h
  split at h
  case h_2 => exact h.elim
  rename_i r a p d r' a' p' d'
  obtain ⟨rfl, hp, hp2, h⟩ := h
  have no : ∀ {c : Bool}, sameV ⟨r, a, p, d⟩ ⟨r', a', p', d'⟩ = c → K (B c) [] [] := fun e => by rw [← e]; exact h
  repeat' (first|((conv=>whnf); (first|refine draw_plan (id := 6) [] [] (.take 0 (.take 1 (.take 2 (.take 3 (.take 4 (.take 5 (.take 6 (.take 7 (.take 8 (.take 9 (.take 10 .done))))))))))) (by kernel_rfl) (by kernel_rfl) ?_|refine brK_dec (fun _=>?_) (fun _=>?_)|refine brK_ndec (fun _=>?_) (fun _=>?_)|refine brK_not (fun _=>?_) (fun _=>?_)|refine brK_in (fun _=>?_) (fun _=>?_)|refine And.intro (by first|exact rfl|exact ⟨_,rfl,rfl⟩|exact ⟨rfl,rfl,rfl⟩|exact of_decide_eq_true rfl|exact trivial|assumption|omega|(show (_ ≤ _ ∧ _ ≤ _); omega)|(simp; omega)|exact ⟨by first|omega|(simp; omega),_,rfl,rfl⟩) ?_|refine Quo.l (And.intro (by first|exact rfl|assumption|omega|(simp; omega)) ?_)|refine Quo.r (And.intro (by omega) ?_)|refine Both.mk ?_ ?_|refine Exists.intro _ (And.intro rfl ?_)|refine opt_use (by assumption) ?_|refine vrow_use (by assumption) ?_|refine vrow_in (fun _ _=>?_)|refine fun _=>?_))|exact rfl)
  · rename_i e
    exact no (decide_eq_false fun q => e (congrArg VxD.r q))
  · rename_i e
    exact no (decide_eq_false fun q => e (congrArg VxD.a q))
  · rename_i e
    exact no (decide_eq_false fun q => e (congrArg VxD.d q))
  · rename_i e
    exact no (decide_eq_false fun q => e (congrArg (fun x : VxD => (x.p.length : Int)) q))
  rename_i e1 e2 e3 e4
  have hlen : p.length = p'.length := by omega
  subst e1 e2 e3
  refine loop_in (ι := Nat) (fun i => mkS 52 [(2, .ptr 0 0), (3, .ptr 1 0), (4, B false), (5, I i)] [.cells [I r, I a, .ints p, I d], .cells [I r, I a, .ints p', I d]] Fs) (fun i => i ≤ p.length ∧ p.take i = p'.take i) (fun i => p.length - i) 0 [0, 1] ⟨Nat.zero_le _, by simp⟩ ?_ ?_
  · repeat' (first|((conv=>whnf); (first|refine brK_dec (fun _=>?_) (fun _=>?_)|refine brK_ndec (fun _=>?_) (fun _=>?_)|refine brK_not (fun _=>?_) (fun _=>?_)|refine brK_in (fun _=>?_) (fun _=>?_)|refine And.intro (by first|exact rfl|exact ⟨_,rfl,rfl⟩|exact ⟨rfl,rfl,rfl⟩|exact of_decide_eq_true rfl|exact trivial|assumption|omega|(show (_ ≤ _ ∧ _ ≤ _); omega)|(simp; omega)|exact ⟨by first|omega|(simp; omega),_,rfl,rfl⟩) ?_|refine Quo.l (And.intro (by first|exact rfl|assumption|omega|(simp; omega)) ?_)|refine Quo.r (And.intro (by omega) ?_)|refine Both.mk ?_ ?_|refine Exists.intro _ (And.intro rfl ?_)|refine opt_use (by assumption) ?_|refine vrow_use (by assumption) ?_|refine vrow_in (fun _ _=>?_)|refine fun _=>?_))|exact rfl)
  intro i ⟨hi, hall⟩
  repeat' (first|((conv=>whnf); (first|refine draw_plan (id := 6) [] [] (.take 0 (.take 1 (.take 2 (.take 3 (.take 4 (.take 5 (.take 6 (.take 7 (.take 8 (.take 9 (.take 10 .done))))))))))) (by kernel_rfl) (by kernel_rfl) ?_|refine brK_dec (fun _=>?_) (fun _=>?_)|refine brK_ndec (fun _=>?_) (fun _=>?_)|refine brK_not (fun _=>?_) (fun _=>?_)|refine brK_in (fun _=>?_) (fun _=>?_)|refine And.intro (by first|exact rfl|exact ⟨_,rfl,rfl⟩|exact ⟨rfl,rfl,rfl⟩|exact of_decide_eq_true rfl|exact trivial|assumption|omega|(show (_ ≤ _ ∧ _ ≤ _); omega)|(simp; omega)|exact ⟨by first|omega|(simp; omega),_,rfl,rfl⟩) ?_|refine Quo.l (And.intro (by first|exact rfl|assumption|omega|(simp; omega)) ?_)|refine Quo.r (And.intro (by omega) ?_)|refine Both.mk ?_ ?_|refine Exists.intro _ (And.intro rfl ?_)|refine opt_use (by assumption) ?_|refine vrow_use (by assumption) ?_|refine vrow_in (fun _ _=>?_)|refine fun _=>?_))|exact rfl)
  · rename_i hil x hx y hy e
    refine no (decide_eq_false fun q => ?_)
    have q2 : p = p' := congrArg VxD.p q
    subst q2
    have hx' : p[i]? = some x := hx
    have hy' : p[i]? = some y := hy
    rw [hx'] at hy'
    exact e (Option.some.inj hy')
  · rename_i hil x hx y hy e
    refine ⟨i + 1, [0, 1], ⟨by omega, eq_takeW hall hx hy (by simpa using e)⟩, by omega, ?_⟩
    repeat' (first|((conv=>whnf); (first|refine brK_dec (fun _=>?_) (fun _=>?_)|refine brK_ndec (fun _=>?_) (fun _=>?_)|refine brK_not (fun _=>?_) (fun _=>?_)|refine brK_in (fun _=>?_) (fun _=>?_)|refine And.intro (by first|exact rfl|exact ⟨_,rfl,rfl⟩|exact ⟨rfl,rfl,rfl⟩|exact of_decide_eq_true rfl|exact trivial|assumption|omega|(show (_ ≤ _ ∧ _ ≤ _); omega)|(simp; omega)|exact ⟨by first|omega|(simp; omega),_,rfl,rfl⟩) ?_|refine Quo.l (And.intro (by first|exact rfl|assumption|omega|(simp; omega)) ?_)|refine Quo.r (And.intro (by omega) ?_)|refine Both.mk ?_ ?_|refine Exists.intro _ (And.intro rfl ?_)|refine opt_use (by assumption) ?_|refine vrow_use (by assumption) ?_|refine vrow_in (fun _ _=>?_)|refine fun _=>?_))|exact rfl)
  · rename_i hil
    rw [List.take_of_length_le (by omega), List.take_of_length_le (by omega)] at hall
    exact no (decide_eq_true (by rw [hall]))
end Go.Proofs.Ytalbgcpfekmfoaa
