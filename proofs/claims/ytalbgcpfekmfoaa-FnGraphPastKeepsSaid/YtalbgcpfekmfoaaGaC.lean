/-
Vertices copied and compared by the program.
No conditions.
-/
import Derived.Test.YtalbgcpfekmfoaaGaB
import Derived.Test.YtalbgcpfekmfoaaVxC
namespace Go.Proofs.Ytalbgcpfekmfoaa
open Go Go.Vc
set_option maxHeartbeats 2000000
set_option maxRecDepth 10000
theorem k_impl_cloneVertex : Keeps' Try.prog 48 c_spec_l11One := by
  refine keeps_of_vc mix TyT_ok cok_nil Try.func48 rfl rfl rfl ?_
  intro aargs hs Fs K h
  simp only [c_spec_l11One] at h
  split at h
  case h_2 => exact h.elim
  rename_i r a p d
  obtain ⟨rfl, hp, h⟩ := h
  repeat' (first|((conv=>whnf); (first|refine brK_dec (fun _=>?_) (fun _=>?_)|refine brK_ndec (fun _=>?_) (fun _=>?_)|refine brK_not (fun _=>?_) (fun _=>?_)|refine brK_in (fun _=>?_) (fun _=>?_)|refine And.intro (by first|exact rfl|exact (by first|exact Nat.le_trans (Nat.mul_le_mul_right _ (show _ ≤ 2000001 from by simp; omega)) (by decide)|(simp; omega))|exact ⟨_,rfl,rfl⟩|exact ⟨rfl,rfl,rfl⟩|exact of_decide_eq_true rfl|exact trivial|assumption|omega|(show (_ ≤ _ ∧ _ ≤ _); omega)|(simp; omega)|exact ⟨by first|omega|(simp; omega),_,rfl,rfl⟩) ?_|refine Quo.l (And.intro (by first|exact rfl|exact (by first|exact Nat.le_trans (Nat.mul_le_mul_right _ (show _ ≤ 2000001 from by simp; omega)) (by decide)|(simp; omega))|assumption|omega|(simp; omega)) ?_)|refine Quo.r (And.intro (by omega) ?_)|refine Both.mk ?_ ?_|refine Exists.intro _ (And.intro rfl ?_)|refine opt_use (by assumption) ?_|refine vrow_use (by assumption) ?_|refine vrow_in (fun _ _=>?_)|refine fun _=>?_))|exact rfl)
  exact h
theorem k_impl_cloneVertices : Keeps' Try.prog 43 c_spec_l11Copy := by
  refine keeps_of_vc mix TyT_ok (cok_cons k_impl_cloneVertex Try.func48 rfl rfl cok_nil) Try.func43 rfl rfl rfl ?_
  intro aargs hs Fs K h
  simp only [c_spec_l11Copy] at h
  split at h
  case h_2 => exact h.elim
  rename_i rows
  obtain ⟨rfl, g, rfl, hg, hp, h⟩ := h
  have hlen : (g.map VxD.row).length = g.length := by simp
  repeat' (first|((conv=>whnf); (first|refine brK_dec (fun _=>?_) (fun _=>?_)|refine brK_ndec (fun _=>?_) (fun _=>?_)|refine brK_not (fun _=>?_) (fun _=>?_)|refine brK_in (fun _=>?_) (fun _=>?_)|refine And.intro (by first|exact rfl|exact ⟨_,rfl,rfl⟩|exact ⟨rfl,rfl,rfl⟩|exact of_decide_eq_true rfl|exact trivial|assumption|omega|(show (_ ≤ _ ∧ _ ≤ _); omega)|(simp; omega)|exact ⟨by first|omega|(simp; omega),_,rfl,rfl⟩) ?_|refine Quo.l (And.intro (by first|exact rfl|assumption|omega|(simp; omega)) ?_)|refine Quo.r (And.intro (by omega) ?_)|refine Both.mk ?_ ?_|refine Exists.intro _ (And.intro rfl ?_)|refine opt_use (by assumption) ?_|refine vrow_use (by assumption) ?_|refine vrow_in (fun _ _=>?_)|refine fun _=>?_))|exact rfl)
  refine loop_in (ι := Nat) (fun i => mkS 23 [(0, .sl 4 (g.map VxD.row)), (2, .val (.slice none 0 0)), (3, .own 0), (9, .sl 4 (g.map VxD.row)), (10, I (g.map VxD.row).length), (11, I i)] [.arr 4 (vxTo g i)] Fs) (fun i => i ≤ g.length) (fun i => g.length - i) 0 [0] (Nat.zero_le _) ?_ ?_
  · repeat' (first|((conv=>whnf); (first|refine brK_dec (fun _=>?_) (fun _=>?_)|refine brK_ndec (fun _=>?_) (fun _=>?_)|refine brK_not (fun _=>?_) (fun _=>?_)|refine brK_in (fun _=>?_) (fun _=>?_)|refine And.intro (by first|exact rfl|exact (vxTo_zero g _ (by simp))|exact ⟨_,rfl,rfl⟩|exact ⟨rfl,rfl,rfl⟩|exact of_decide_eq_true rfl|exact trivial|assumption|omega|(show (_ ≤ _ ∧ _ ≤ _); omega)|(simp; omega)|exact ⟨by first|omega|(simp; omega),_,rfl,rfl⟩) ?_|refine Quo.l (And.intro (by first|exact rfl|exact (vxTo_zero g _ (by simp))|assumption|omega|(simp; omega)) ?_)|refine Quo.r (And.intro (by omega) ?_)|refine Both.mk ?_ ?_|refine Exists.intro _ (And.intro rfl ?_)|refine opt_use (by assumption) ?_|refine vrow_use (by assumption) ?_|refine vrow_in (fun _ _=>?_)|refine fun _=>?_))|exact rfl)
  intro i hi
  have hrl := vxTo_len hi
  repeat' (first|((conv=>whnf); (first|refine brK_dec (fun _=>?_) (fun _=>?_)|refine brK_ndec (fun _=>?_) (fun _=>?_)|refine brK_not (fun _=>?_) (fun _=>?_)|refine brK_in (fun _=>?_) (fun _=>?_)|refine And.intro (by first|exact rfl|exact ⟨_,rfl,rfl⟩|exact ⟨rfl,rfl,rfl⟩|exact of_decide_eq_true rfl|exact trivial|assumption|omega|(show (_ ≤ _ ∧ _ ≤ _); omega)|(simp; omega)|exact ⟨by first|omega|(simp; omega),_,rfl,rfl⟩) ?_|refine Quo.l (And.intro (by first|exact rfl|assumption|omega|(simp; omega)) ?_)|refine Quo.r (And.intro (by omega) ?_)|refine Both.mk ?_ ?_|refine Exists.intro _ (And.intro rfl ?_)|refine opt_use (by assumption) ?_|refine vrow_use (by assumption) ?_|refine vrow_in (fun _ _=>?_)|refine fun _=>?_))|exact rfl)
  · rename_i hil v hv
    have hv : g[i]? = some v := hv
    have hpv := hp v (List.mem_of_getElem? hv)
    repeat' (first|((conv=>whnf); (first|refine brK_dec (fun _=>?_) (fun _=>?_)|refine brK_ndec (fun _=>?_) (fun _=>?_)|refine brK_not (fun _=>?_) (fun _=>?_)|refine brK_in (fun _=>?_) (fun _=>?_)|refine And.intro (by first|exact rfl|exact ⟨_,rfl,rfl⟩|exact ⟨rfl,rfl,rfl⟩|exact of_decide_eq_true rfl|exact trivial|assumption|omega|(show (_ ≤ _ ∧ _ ≤ _); omega)|(simp; omega)|exact ⟨by first|omega|(simp; omega),_,rfl,rfl⟩) ?_|refine Quo.l (And.intro (by first|exact rfl|assumption|omega|(simp; omega)) ?_)|refine Quo.r (And.intro (by omega) ?_)|refine Both.mk ?_ ?_|refine Exists.intro _ (And.intro rfl ?_)|refine opt_use (by assumption) ?_|refine vrow_use (by assumption) ?_|refine vrow_in (fun _ _=>?_)|refine fun _=>?_))|exact rfl)
    rename_i e he2
    have he2 : (vxTo g i)[i]? = some e := he2
    obtain rfl := vxTo_at (by omega) he2
    refine ⟨i + 1, [0], by omega, by omega, ?_⟩
    repeat' (first|((conv=>whnf); (first|refine brK_dec (fun _=>?_) (fun _=>?_)|refine brK_ndec (fun _=>?_) (fun _=>?_)|refine brK_not (fun _=>?_) (fun _=>?_)|refine brK_in (fun _=>?_) (fun _=>?_)|refine And.intro (by first|exact rfl|exact ((vxTo_set hv).symm)|exact ⟨_,rfl,rfl⟩|exact ⟨rfl,rfl,rfl⟩|exact of_decide_eq_true rfl|exact trivial|assumption|omega|(show (_ ≤ _ ∧ _ ≤ _); omega)|(simp; omega)|exact ⟨by first|omega|(simp; omega),_,rfl,rfl⟩) ?_|refine Quo.l (And.intro (by first|exact rfl|exact ((vxTo_set hv).symm)|assumption|omega|(simp; omega)) ?_)|refine Quo.r (And.intro (by omega) ?_)|refine Both.mk ?_ ?_|refine Exists.intro _ (And.intro rfl ?_)|refine opt_use (by assumption) ?_|refine vrow_use (by assumption) ?_|refine vrow_in (fun _ _=>?_)|refine fun _=>?_))|exact rfl)
  · rename_i hil
    have e : i = g.length := by omega
    subst e
    rw [vxTo_all]
    exact h
theorem k_slices_Equal : Keeps' Try.prog 81 c_laws_eqIntS := by
  refine keeps_of_vc mix TyT_ok cok_nil Try.func81 rfl rfl rfl ?_
  intro aargs hs Fs K h
  simp only [c_laws_eqIntS] at h
  split at h
  case h_2 => exact h.elim
  rename_i a b
  obtain ⟨rfl, ha, hb, h⟩ := h
  have no : ∀ {c : Bool}, decide (a = b) = c → K (B c) [] [] := fun e => by rw [← e]; exact h
  repeat' (first|((conv=>whnf); (first|refine brK_dec (fun _=>?_) (fun _=>?_)|refine brK_ndec (fun _=>?_) (fun _=>?_)|refine brK_not (fun _=>?_) (fun _=>?_)|refine brK_in (fun _=>?_) (fun _=>?_)|refine And.intro (by first|exact rfl|exact ⟨_,rfl,rfl⟩|exact ⟨rfl,rfl,rfl⟩|exact of_decide_eq_true rfl|exact trivial|assumption|omega|(show (_ ≤ _ ∧ _ ≤ _); omega)|(simp; omega)|exact ⟨by first|omega|(simp; omega),_,rfl,rfl⟩) ?_|refine Quo.l (And.intro (by first|exact rfl|assumption|omega|(simp; omega)) ?_)|refine Quo.r (And.intro (by omega) ?_)|refine Both.mk ?_ ?_|refine Exists.intro _ (And.intro rfl ?_)|refine opt_use (by assumption) ?_|refine vrow_use (by assumption) ?_|refine vrow_in (fun _ _=>?_)|refine fun _=>?_))|exact rfl)
  · rename_i h1
    exact no (by
      have : a ≠ b := by rintro rfl; exact h1 rfl
      simp [this])
  rename_i h1
  have hlen : a.length = b.length := by omega
  refine loop_in (ι := Nat) (fun i => mkS 26 [(0, .ints a), (1, .ints b), (4, B false), (12, I a.length), (13, I i)] [] Fs) (fun i => i ≤ a.length ∧ a.take i = b.take i) (fun i => a.length - i) 0 [] ⟨Nat.zero_le _, by simp⟩ ?_ ?_
  · repeat' (first|((conv=>whnf); (first|refine brK_dec (fun _=>?_) (fun _=>?_)|refine brK_ndec (fun _=>?_) (fun _=>?_)|refine brK_not (fun _=>?_) (fun _=>?_)|refine brK_in (fun _=>?_) (fun _=>?_)|refine And.intro (by first|exact rfl|exact ⟨_,rfl,rfl⟩|exact ⟨rfl,rfl,rfl⟩|exact of_decide_eq_true rfl|exact trivial|assumption|omega|(show (_ ≤ _ ∧ _ ≤ _); omega)|(simp; omega)|exact ⟨by first|omega|(simp; omega),_,rfl,rfl⟩) ?_|refine Quo.l (And.intro (by first|exact rfl|assumption|omega|(simp; omega)) ?_)|refine Quo.r (And.intro (by omega) ?_)|refine Both.mk ?_ ?_|refine Exists.intro _ (And.intro rfl ?_)|refine opt_use (by assumption) ?_|refine vrow_use (by assumption) ?_|refine vrow_in (fun _ _=>?_)|refine fun _=>?_))|exact rfl)
  intro i ⟨hi, hall⟩
  repeat' (first|((conv=>whnf); (first|refine draw_plan (id := 6) [] [] (.take 0 (.take 1 (.take 2 (.take 3 (.take 4 (.take 5 (.take 6 (.take 7 (.take 8 .done))))))))) (by kernel_rfl) (by kernel_rfl) ?_|refine brK_dec (fun _=>?_) (fun _=>?_)|refine brK_ndec (fun _=>?_) (fun _=>?_)|refine brK_not (fun _=>?_) (fun _=>?_)|refine brK_in (fun _=>?_) (fun _=>?_)|refine And.intro (by first|exact rfl|exact ⟨_,rfl,rfl⟩|exact ⟨rfl,rfl,rfl⟩|exact of_decide_eq_true rfl|exact trivial|assumption|omega|(show (_ ≤ _ ∧ _ ≤ _); omega)|(simp; omega)|exact ⟨by first|omega|(simp; omega),_,rfl,rfl⟩) ?_|refine Quo.l (And.intro (by first|exact rfl|assumption|omega|(simp; omega)) ?_)|refine Quo.r (And.intro (by omega) ?_)|refine Both.mk ?_ ?_|refine Exists.intro _ (And.intro rfl ?_)|refine opt_use (by assumption) ?_|refine vrow_use (by assumption) ?_|refine vrow_in (fun _ _=>?_)|refine fun _=>?_))|exact rfl)
  · rename_i hil x hx y hy e
    refine no ?_
    have : a ≠ b := by
      rintro rfl
      have hx' : a[i]? = some x := hx
      have hy' : a[i]? = some y := hy
      rw [hx'] at hy'
      exact e (Option.some.inj hy')
    simp [this]
  · rename_i hil x hx y hy e
    refine ⟨i + 1, [], ⟨by omega, eq_takeW hall hx hy (by simpa using e)⟩, by omega, ?_⟩
    repeat' (first|((conv=>whnf); (first|refine brK_dec (fun _=>?_) (fun _=>?_)|refine brK_ndec (fun _=>?_) (fun _=>?_)|refine brK_not (fun _=>?_) (fun _=>?_)|refine brK_in (fun _=>?_) (fun _=>?_)|refine And.intro (by first|exact rfl|exact ⟨_,rfl,rfl⟩|exact ⟨rfl,rfl,rfl⟩|exact of_decide_eq_true rfl|exact trivial|assumption|omega|(show (_ ≤ _ ∧ _ ≤ _); omega)|(simp; omega)|exact ⟨by first|omega|(simp; omega),_,rfl,rfl⟩) ?_|refine Quo.l (And.intro (by first|exact rfl|assumption|omega|(simp; omega)) ?_)|refine Quo.r (And.intro (by omega) ?_)|refine Both.mk ?_ ?_|refine Exists.intro _ (And.intro rfl ?_)|refine opt_use (by assumption) ?_|refine vrow_use (by assumption) ?_|refine vrow_in (fun _ _=>?_)|refine fun _=>?_))|exact rfl)
  · rename_i hil
    rw [List.take_of_length_le (by omega), List.take_of_length_le (by omega)] at hall
    exact no (by simp [hall])
theorem k_impl_sameVertex : Keeps' Try.prog 45 c_spec_l11Same := by
  refine keeps_of_vc mix TyT_ok (cok_cons k_slices_Equal Try.func81 rfl rfl cok_nil) Try.func45 rfl rfl rfl ?_
  intro aargs hs Fs K h
  simp only [c_spec_l11Same] at h
  split at h
  case h_2 => exact h.elim
  rename_i r a p d r' a' p' d'
  obtain ⟨rfl, hp, hp2, h⟩ := h
  have no : ∀ {c : Bool}, sameV ⟨r, a, p, d⟩ ⟨r', a', p', d'⟩ = c → K (B c) [] [] := fun e => by rw [← e]; exact h
  repeat' (first|((conv=>whnf); (first|refine brK_dec (fun _=>?_) (fun _=>?_)|refine brK_ndec (fun _=>?_) (fun _=>?_)|refine brK_not (fun _=>?_) (fun _=>?_)|refine brK_in (fun _=>?_) (fun _=>?_)|refine And.intro (by first|exact rfl|exact ⟨_,rfl,rfl⟩|exact ⟨rfl,rfl,rfl⟩|exact of_decide_eq_true rfl|exact trivial|assumption|omega|(show (_ ≤ _ ∧ _ ≤ _); omega)|(simp; omega)|exact ⟨by first|omega|(simp; omega),_,rfl,rfl⟩) ?_|refine Quo.l (And.intro (by first|exact rfl|assumption|omega|(simp; omega)) ?_)|refine Quo.r (And.intro (by omega) ?_)|refine Both.mk ?_ ?_|refine Exists.intro _ (And.intro rfl ?_)|refine opt_use (by assumption) ?_|refine vrow_use (by assumption) ?_|refine vrow_in (fun _ _=>?_)|refine fun _=>?_))|exact rfl)
  · rename_i e1 e2 e3
    exact no (by simp [sameV, e1, e2, e3])
  · rename_i e1 e2 e
    exact no (decide_eq_false fun q => e (congrArg VxD.d q))
  · rename_i e1 e
    exact no (decide_eq_false fun q => e (congrArg VxD.a q))
  · rename_i e
    exact no (decide_eq_false fun q => e (congrArg VxD.r q))
theorem k_laws_sameVertex : Keeps' Try.prog 18 c_spec_l11Same := by
  refine keeps_of_vc mix TyT_ok (cok_cons k_laws_sameInts Try.func52 rfl rfl cok_nil) Try.func18 rfl rfl rfl ?_
  intro aargs hs Fs K h
  simp only [c_spec_l11Same] at h
  split at h
  case h_2 => exact h.elim
  rename_i r a p d r' a' p' d'
  obtain ⟨rfl, hp, hp2, h⟩ := h
  have no : ∀ {c : Bool}, sameV ⟨r, a, p, d⟩ ⟨r', a', p', d'⟩ = c → K (B c) [] [] := fun e => by rw [← e]; exact h
  repeat' (first|((conv=>whnf); (first|refine brK_dec (fun _=>?_) (fun _=>?_)|refine brK_ndec (fun _=>?_) (fun _=>?_)|refine brK_not (fun _=>?_) (fun _=>?_)|refine brK_in (fun _=>?_) (fun _=>?_)|refine And.intro (by first|exact rfl|exact ⟨_,rfl,rfl⟩|exact ⟨rfl,rfl,rfl⟩|exact of_decide_eq_true rfl|exact trivial|assumption|omega|(show (_ ≤ _ ∧ _ ≤ _); omega)|(simp; omega)|exact ⟨by first|omega|(simp; omega),_,rfl,rfl⟩) ?_|refine Quo.l (And.intro (by first|exact rfl|assumption|omega|(simp; omega)) ?_)|refine Quo.r (And.intro (by omega) ?_)|refine Both.mk ?_ ?_|refine Exists.intro _ (And.intro rfl ?_)|refine opt_use (by assumption) ?_|refine vrow_use (by assumption) ?_|refine vrow_in (fun _ _=>?_)|refine fun _=>?_))|exact rfl)
  · rename_i e1 e2 e3
    exact no (by simp [sameV, e1, e2, e3])
  · rename_i e1 e2 e
    exact no (decide_eq_false fun q => e (congrArg VxD.d q))
  · rename_i e1 e
    exact no (decide_eq_false fun q => e (congrArg VxD.a q))
  · rename_i e
    exact no (decide_eq_false fun q => e (congrArg VxD.r q))
theorem eq_takeV {a b : List VxD} {i : Nat} {x y : VxD} (h : a.take i = b.take i) (hx : a[i]? = some x) (hy : b[i]? = some y) (e : x = y) : a.take (i + 1) = b.take (i + 1) := by
  rw [List.take_add_one, List.take_add_one, h, hx, hy, e]
def c_laws_sameGraph : Con := ⟨0, 0, false, fun xs hs _ K => match xs with
  | [.sl 4 ra, .sl 4 rb] => hs = [] ∧ ∃ a b : List VxD, ra = a.map VxD.row ∧ rb = b.map VxD.row ∧ a.length < 2000000 ∧ b.length < 2000000 ∧ (∀ v ∈ a, v.p.length < 2000000) ∧ (∀ v ∈ b, v.p.length < 2000000) ∧ K (B (decide (a = b))) [] []
  | _ => False⟩
theorem k_laws_sameGraph : Keeps' Try.prog 16 c_laws_sameGraph := by
  refine keeps_of_vc mix TyT_ok (cok_cons k_laws_sameVertex Try.func18 rfl rfl cok_nil) Try.func16 rfl rfl rfl ?_
  intro aargs hs Fs K h
  simp only [c_laws_sameGraph] at h
  split at h
  case h_2 => exact h.elim
  rename_i ra rb
  obtain ⟨rfl, a, b, rfl, rfl, ha, hb, hpa, hpb, h⟩ := h
  have no : ∀ {c : Bool}, decide (a = b) = c → K (B c) [] [] := fun e => by rw [← e]; exact h
  have hal : (a.map VxD.row).length = a.length := by simp
  have hbl : (b.map VxD.row).length = b.length := by simp
  repeat' (first|((conv=>whnf); (first|refine brK_dec (fun _=>?_) (fun _=>?_)|refine brK_ndec (fun _=>?_) (fun _=>?_)|refine brK_not (fun _=>?_) (fun _=>?_)|refine brK_in (fun _=>?_) (fun _=>?_)|refine And.intro (by first|exact rfl|exact ⟨_,rfl,rfl⟩|exact ⟨rfl,rfl,rfl⟩|exact of_decide_eq_true rfl|exact trivial|assumption|omega|(show (_ ≤ _ ∧ _ ≤ _); omega)|(simp; omega)|exact ⟨by first|omega|(simp; omega),_,rfl,rfl⟩) ?_|refine Quo.l (And.intro (by first|exact rfl|assumption|omega|(simp; omega)) ?_)|refine Quo.r (And.intro (by omega) ?_)|refine Both.mk ?_ ?_|refine Exists.intro _ (And.intro rfl ?_)|refine opt_use (by assumption) ?_|refine vrow_use (by assumption) ?_|refine vrow_in (fun _ _=>?_)|refine fun _=>?_))|exact rfl)
  · rename_i h1
    refine no ?_
    have : a ≠ b := by rintro rfl; exact h1 rfl
    simp [this]
  rename_i h1
  have hlen : a.length = b.length := by omega
  refine loop_in (ι := Nat) (fun i => mkS 27 [(0, .sl 4 (a.map VxD.row)), (1, .sl 4 (b.map VxD.row)), (4, B false), (5, I i)] [] Fs) (fun i => i ≤ a.length ∧ a.take i = b.take i) (fun i => a.length - i) 0 [] ⟨Nat.zero_le _, by simp⟩ ?_ ?_
  · repeat' (first|((conv=>whnf); (first|refine brK_dec (fun _=>?_) (fun _=>?_)|refine brK_ndec (fun _=>?_) (fun _=>?_)|refine brK_not (fun _=>?_) (fun _=>?_)|refine brK_in (fun _=>?_) (fun _=>?_)|refine And.intro (by first|exact rfl|exact ⟨_,rfl,rfl⟩|exact ⟨rfl,rfl,rfl⟩|exact of_decide_eq_true rfl|exact trivial|assumption|omega|(show (_ ≤ _ ∧ _ ≤ _); omega)|(simp; omega)|exact ⟨by first|omega|(simp; omega),_,rfl,rfl⟩) ?_|refine Quo.l (And.intro (by first|exact rfl|assumption|omega|(simp; omega)) ?_)|refine Quo.r (And.intro (by omega) ?_)|refine Both.mk ?_ ?_|refine Exists.intro _ (And.intro rfl ?_)|refine opt_use (by assumption) ?_|refine vrow_use (by assumption) ?_|refine vrow_in (fun _ _=>?_)|refine fun _=>?_))|exact rfl)
  intro i ⟨hi, hall⟩
  rcases Nat.lt_or_ge i a.length with hil | hil
  · obtain ⟨x, hx⟩ : ∃ x, a[((i : Nat) : Int).toNat]? = some x := ⟨_, List.getElem?_eq_getElem hil⟩
    obtain ⟨y, hy⟩ : ∃ y, b[((i : Nat) : Int).toNat]? = some y := ⟨_, List.getElem?_eq_getElem (by show i < _; omega)⟩
    have px := hpa x (List.mem_of_getElem? hx)
    have py := hpb y (List.mem_of_getElem? hy)
    repeat' (first|((conv=>whnf); (first|refine draw_plan (id := 6) [] [] (.take 0 (.take 1 (.take 2 (.take 3 (.take 4 (.take 5 (.take 6 (.take 7 (.run 8 (.take 9 .done)))))))))) (by kernel_rfl) (by kernel_rfl) ?_|refine brK_dec (fun _=>?_) (fun _=>?_)|refine brK_ndec (fun _=>?_) (fun _=>?_)|refine brK_not (fun _=>?_) (fun _=>?_)|refine brK_in (fun _=>?_) (fun _=>?_)|refine And.intro (by first|exact rfl|exact ⟨_,rfl,rfl⟩|exact ⟨rfl,rfl,rfl⟩|exact of_decide_eq_true rfl|exact trivial|assumption|omega|(show (_ ≤ _ ∧ _ ≤ _); omega)|(simp; omega)|exact ⟨by first|omega|(simp; omega),_,rfl,rfl⟩) ?_|refine Quo.l (And.intro (by first|exact rfl|assumption|omega|(simp; omega)) ?_)|refine Quo.r (And.intro (by omega) ?_)|refine Both.mk ?_ ?_|refine Exists.intro _ (And.intro rfl ?_)|refine opt_use (by assumption) ?_|refine vrow_use (by assumption) ?_|refine vrow_in (fun _ _=>?_)|refine fun _=>?_))|exact rfl)
    · rename_i h0 e
      refine no (decide_eq_false fun q => ?_)
      subst q
      rw [hx] at hy
      cases hy
      exact e rfl
    · rename_i h0 e
      refine ⟨i + 1, [], ⟨by omega, eq_takeV hall hx hy e⟩, by omega, ?_⟩
      repeat' (first|((conv=>whnf); (first|refine brK_dec (fun _=>?_) (fun _=>?_)|refine brK_ndec (fun _=>?_) (fun _=>?_)|refine brK_not (fun _=>?_) (fun _=>?_)|refine brK_in (fun _=>?_) (fun _=>?_)|refine And.intro (by first|exact rfl|exact ⟨_,rfl,rfl⟩|exact ⟨rfl,rfl,rfl⟩|exact of_decide_eq_true rfl|exact trivial|assumption|omega|(show (_ ≤ _ ∧ _ ≤ _); omega)|(simp; omega)|exact ⟨by first|omega|(simp; omega),_,rfl,rfl⟩) ?_|refine Quo.l (And.intro (by first|exact rfl|assumption|omega|(simp; omega)) ?_)|refine Quo.r (And.intro (by omega) ?_)|refine Both.mk ?_ ?_|refine Exists.intro _ (And.intro rfl ?_)|refine opt_use (by assumption) ?_|refine vrow_use (by assumption) ?_|refine vrow_in (fun _ _=>?_)|refine fun _=>?_))|exact rfl)
    · omega
  · repeat' (first|((conv=>whnf); (first|refine brK_dec (fun _=>?_) (fun _=>?_)|refine brK_ndec (fun _=>?_) (fun _=>?_)|refine brK_not (fun _=>?_) (fun _=>?_)|refine brK_in (fun _=>?_) (fun _=>?_)|refine And.intro (by first|exact rfl|exact ⟨_,rfl,rfl⟩|exact ⟨rfl,rfl,rfl⟩|exact of_decide_eq_true rfl|exact trivial|assumption|omega|(show (_ ≤ _ ∧ _ ≤ _); omega)|(simp; omega)|exact ⟨by first|omega|(simp; omega),_,rfl,rfl⟩) ?_|refine Quo.l (And.intro (by first|exact rfl|assumption|omega|(simp; omega)) ?_)|refine Quo.r (And.intro (by omega) ?_)|refine Both.mk ?_ ?_|refine Exists.intro _ (And.intro rfl ?_)|refine opt_use (by assumption) ?_|refine vrow_use (by assumption) ?_|refine vrow_in (fun _ _=>?_)|refine fun _=>?_))|exact rfl)
    · omega
    rw [List.take_of_length_le (by omega), List.take_of_length_le (by omega)] at hall
    exact no (by simp [hall])
end Go.Proofs.Ytalbgcpfekmfoaa
