/-
Drawn graphs.
Drawn graphs that may be spoilt, drawn leaders.
No conditions.
-/
import Derived.Test.YtalbgcpfekmfoaaDrX
import Derived.Test.YtalbgcpfekmfoaaWgX
namespace Go.Proofs.Ytalbgcpfekmfoaa
open Go Go.Vc
set_option maxHeartbeats 4000000
set_option maxRecDepth 10000
def c_spec_l11Authors : Con := ⟨1, 0, false, fun xs hs _ K => match xs with
  | [.sl 4 rows, .val (.int .i64 _)] => hs = [] ∧ ∃ g : List VxD, rows = g.map VxD.row ∧ g.length < 2000000 ∧ ∀ l : List Int, l.length ≤ g.length → (∀ x ∈ l, ∃ v ∈ g, v.a = x) → K (.own 0) [.iarr l] []
  | _ => False⟩
theorem k_spec_l11Authors : Keeps' Try.prog 73 c_spec_l11Authors := by
  refine keeps_of_vc mix TyT_ok cok_nil Try.func73 rfl rfl rfl ?_
  intro aargs hs Fs K h
  simp only [c_spec_l11Authors] at h
  split at h
  case h_2 => exact h.elim
  rename_i rows r
  obtain ⟨rfl, g, rfl, hg, h⟩ := h
  have hlen : (g.map VxD.row).length = g.length := by simp
  repeat' (first|((conv=>whnf); (first|refine brK_dec (fun _=>?_) (fun _=>?_)|refine brK_ndec (fun _=>?_) (fun _=>?_)|refine brK_not (fun _=>?_) (fun _=>?_)|refine brK_in (fun _=>?_) (fun _=>?_)|refine And.intro (by first|exact rfl|exact ⟨_,rfl,rfl⟩|exact ⟨rfl,rfl,rfl⟩|exact of_decide_eq_true rfl|exact trivial|assumption|omega|(show (_ ≤ _ ∧ _ ≤ _); omega)|(simp; omega)|exact ⟨by first|omega|(simp; omega),_,rfl,rfl⟩) ?_|refine Quo.l (And.intro (by first|exact rfl|assumption|omega|(simp; omega)) ?_)|refine Quo.r (And.intro (by omega) ?_)|refine Both.mk ?_ ?_|refine Exists.intro _ (And.intro rfl ?_)|refine opt_use (by assumption) ?_|refine vrow_use (by assumption) ?_|refine vrow_in (fun _ _=>?_)|refine fun _=>?_))|exact rfl)
  refine loop_in (ι := Nat × List Int) (fun q => mkS 30 [(0, .sl 4 (g.map VxD.row)), (1, I r), (5, .own 0), (6, I q.1)] [.iarr q.2] Fs) (fun q => q.1 ≤ g.length ∧ q.2.length ≤ q.1 ∧ ∀ x ∈ q.2, ∃ v ∈ g, v.a = x) (fun q => g.length - q.1) (0, []) [0] ⟨Nat.zero_le _, Nat.le_refl _, by simp⟩ ?_ ?_
  · repeat' (first|((conv=>whnf); (first|refine brK_dec (fun _=>?_) (fun _=>?_)|refine brK_ndec (fun _=>?_) (fun _=>?_)|refine brK_not (fun _=>?_) (fun _=>?_)|refine brK_in (fun _=>?_) (fun _=>?_)|refine And.intro (by first|exact rfl|exact ⟨_,rfl,rfl⟩|exact ⟨rfl,rfl,rfl⟩|exact of_decide_eq_true rfl|exact trivial|assumption|omega|(show (_ ≤ _ ∧ _ ≤ _); omega)|(simp; omega)|exact ⟨by first|omega|(simp; omega),_,rfl,rfl⟩) ?_|refine Quo.l (And.intro (by first|exact rfl|assumption|omega|(simp; omega)) ?_)|refine Quo.r (And.intro (by omega) ?_)|refine Both.mk ?_ ?_|refine Exists.intro _ (And.intro rfl ?_)|refine opt_use (by assumption) ?_|refine vrow_use (by assumption) ?_|refine vrow_in (fun _ _=>?_)|refine fun _=>?_))|exact rfl)
  rintro ⟨i, l⟩ ⟨hi, hl, hx⟩
  dsimp only at hi hl hx ⊢
  repeat' (first|((conv=>whnf); (first|refine brK_dec (fun _=>?_) (fun _=>?_)|refine brK_ndec (fun _=>?_) (fun _=>?_)|refine brK_not (fun _=>?_) (fun _=>?_)|refine brK_in (fun _=>?_) (fun _=>?_)|refine And.intro (by first|exact rfl|exact ⟨_,rfl,rfl⟩|exact ⟨rfl,rfl,rfl⟩|exact of_decide_eq_true rfl|exact trivial|assumption|omega|(show (_ ≤ _ ∧ _ ≤ _); omega)|(simp; omega)|exact ⟨by first|omega|(simp; omega),_,rfl,rfl⟩) ?_|refine Quo.l (And.intro (by first|exact rfl|assumption|omega|(simp; omega)) ?_)|refine Quo.r (And.intro (by omega) ?_)|refine Both.mk ?_ ?_|refine Exists.intro _ (And.intro rfl ?_)|refine opt_use (by assumption) ?_|refine vrow_use (by assumption) ?_|refine vrow_in (fun _ _=>?_)|refine fun _=>?_))|exact rfl)
  · rename_i h0 v hv e
    have hv : g[i]? = some v := hv
    refine ⟨(i + 1, l ++ [v.a]), [0], ⟨by dsimp only; omega, by dsimp only; simp; omega, fun x hx2 => ?_⟩, by dsimp only; omega, ?_⟩
    · rcases List.mem_append.1 hx2 with h1 | h1
      · exact hx x h1
      · rw [List.mem_singleton.1 h1]
        exact ⟨v, List.mem_of_getElem? hv, rfl⟩
    repeat' (first|((conv=>whnf); (first|refine brK_dec (fun _=>?_) (fun _=>?_)|refine brK_ndec (fun _=>?_) (fun _=>?_)|refine brK_not (fun _=>?_) (fun _=>?_)|refine brK_in (fun _=>?_) (fun _=>?_)|refine And.intro (by first|exact rfl|exact (by rw [List.take_length])|exact ⟨_,rfl,rfl⟩|exact ⟨rfl,rfl,rfl⟩|exact of_decide_eq_true rfl|exact trivial|assumption|omega|(show (_ ≤ _ ∧ _ ≤ _); omega)|(simp; omega)|exact ⟨by first|omega|(simp; omega),_,rfl,rfl⟩) ?_|refine Quo.l (And.intro (by first|exact rfl|exact (by rw [List.take_length])|assumption|omega|(simp; omega)) ?_)|refine Quo.r (And.intro (by omega) ?_)|refine Both.mk ?_ ?_|refine Exists.intro _ (And.intro rfl ?_)|refine opt_use (by assumption) ?_|refine vrow_use (by assumption) ?_|refine vrow_in (fun _ _=>?_)|refine fun _=>?_))|exact rfl)
  · rename_i h0 v hv e
    refine ⟨(i + 1, l), [0], ⟨by dsimp only; omega, by dsimp only; omega, hx⟩, by dsimp only; omega, ?_⟩
    repeat' (first|((conv=>whnf); (first|refine brK_dec (fun _=>?_) (fun _=>?_)|refine brK_ndec (fun _=>?_) (fun _=>?_)|refine brK_not (fun _=>?_) (fun _=>?_)|refine brK_in (fun _=>?_) (fun _=>?_)|refine And.intro (by first|exact rfl|exact ⟨_,rfl,rfl⟩|exact ⟨rfl,rfl,rfl⟩|exact of_decide_eq_true rfl|exact trivial|assumption|omega|(show (_ ≤ _ ∧ _ ≤ _); omega)|(simp; omega)|exact ⟨by first|omega|(simp; omega),_,rfl,rfl⟩) ?_|refine Quo.l (And.intro (by first|exact rfl|assumption|omega|(simp; omega)) ?_)|refine Quo.r (And.intro (by omega) ?_)|refine Both.mk ?_ ?_|refine Exists.intro _ (And.intro rfl ?_)|refine opt_use (by assumption) ?_|refine vrow_use (by assumption) ?_|refine vrow_in (fun _ _=>?_)|refine fun _=>?_))|exact rfl)
  · exact h l (by omega) hx
def c_weigh : Con := ⟨0, 0, false, fun xs hs _ K => match xs with
  | [.ints c, .ints s] => hs = [] ∧ c.length < 2000 ∧ (∀ x ∈ c, 0 ≤ x ∧ x ≤ 999) ∧ s.length ≤ 100000 ∧ (∀ x ∈ s, 0 ≤ x ∧ x < c.length) ∧ ∀ w, K (I w) [] []
  | _ => False⟩
theorem k_spec_l1Weight_n : Keeps' Try.prog 85 c_weigh := by
  refine keeps_of_vc mix TyT_ok cok_nil Try.func85 rfl rfl rfl ?_
  intro aargs hs Fs K h
  simp only [c_weigh] at h
  split at h
  case h_2 => exact h.elim
  rename_i c s
  obtain ⟨rfl, hc, hx, hsl, hm, h⟩ := h
  have hmr : ∀ {i : Nat} {m : Int}, s[i]? = some m → 0 ≤ m ∧ m < c.length := fun h => hm _ (List.mem_of_getElem? h)
  repeat' (first|((conv=>whnf); (first|refine brK_dec (fun _=>?_) (fun _=>?_)|refine brK_ndec (fun _=>?_) (fun _=>?_)|refine brK_not (fun _=>?_) (fun _=>?_)|refine brK_in (fun _=>?_) (fun _=>?_)|refine And.intro (by first|exact rfl|exact ⟨_,rfl,rfl⟩|exact ⟨rfl,rfl,rfl⟩|exact of_decide_eq_true rfl|exact trivial|assumption|omega|(show (_ ≤ _ ∧ _ ≤ _); omega)|(simp; omega)|exact ⟨by first|omega|(simp; omega),_,rfl,rfl⟩) ?_|refine Quo.l (And.intro (by first|exact rfl|assumption|omega|(simp; omega)) ?_)|refine Quo.r (And.intro (by omega) ?_)|refine Both.mk ?_ ?_|refine Exists.intro _ (And.intro rfl ?_)|refine opt_use (by assumption) ?_|refine vrow_use (by assumption) ?_|refine vrow_in (fun _ _=>?_)|refine fun _=>?_))|exact rfl)
  refine loop_in (ι := Nat × Int) (fun q => mkS 23 [(0, .ints c), (1, .ints s), (4, I 0), (5, I q.2), (6, I q.1)] [] Fs) (fun q => q.1 ≤ s.length ∧ 0 ≤ q.2 ∧ q.2 ≤ 999 * q.1) (fun q => s.length - q.1) (0, 0) [] ⟨Nat.zero_le _, by simp, by simp⟩ ?_ ?_
  · repeat' (first|((conv=>whnf); (first|refine brK_dec (fun _=>?_) (fun _=>?_)|refine brK_ndec (fun _=>?_) (fun _=>?_)|refine brK_not (fun _=>?_) (fun _=>?_)|refine brK_in (fun _=>?_) (fun _=>?_)|refine And.intro (by first|exact rfl|exact ⟨_,rfl,rfl⟩|exact ⟨rfl,rfl,rfl⟩|exact of_decide_eq_true rfl|exact trivial|assumption|omega|(show (_ ≤ _ ∧ _ ≤ _); omega)|(simp; omega)|exact ⟨by first|omega|(simp; omega),_,rfl,rfl⟩) ?_|refine Quo.l (And.intro (by first|exact rfl|assumption|omega|(simp; omega)) ?_)|refine Quo.r (And.intro (by omega) ?_)|refine Both.mk ?_ ?_|refine Exists.intro _ (And.intro rfl ?_)|refine opt_use (by assumption) ?_|refine vrow_use (by assumption) ?_|refine vrow_in (fun _ _=>?_)|refine fun _=>?_))|exact rfl)
  rintro ⟨i, w⟩ ⟨hi, hw0, hw⟩
  dsimp only at hi hw0 hw ⊢
  repeat' (first|((conv=>whnf); (first|refine brK_dec (fun _=>?_) (fun _=>?_)|refine brK_ndec (fun _=>?_) (fun _=>?_)|refine brK_not (fun _=>?_) (fun _=>?_)|refine brK_in (fun _=>?_) (fun _=>?_)|refine And.intro (by first|exact rfl|exact (by first|exact (hmr (by assumption)).1|exact (hmr (by assumption)).2|exact rng_cell hx (by assumption) (by omega))|exact ⟨_,rfl,rfl⟩|exact ⟨rfl,rfl,rfl⟩|exact of_decide_eq_true rfl|exact trivial|assumption|omega|(show (_ ≤ _ ∧ _ ≤ _); omega)|(simp; omega)|exact ⟨by first|omega|(simp; omega),_,rfl,rfl⟩) ?_|refine Quo.l (And.intro (by first|exact rfl|exact (by first|exact (hmr (by assumption)).1|exact (hmr (by assumption)).2|exact rng_cell hx (by assumption) (by omega))|assumption|omega|(simp; omega)) ?_)|refine Quo.r (And.intro (by omega) ?_)|refine Both.mk ?_ ?_|refine Exists.intro _ (And.intro rfl ?_)|refine opt_use (by assumption) ?_|refine vrow_use (by assumption) ?_|refine vrow_in (fun _ _=>?_)|refine fun _=>?_))|exact rfl)
  · rename_i hil m hmm x hxx
    have := hx x (List.mem_of_getElem? hxx)
    refine ⟨(i + 1, w + x), [], ⟨by dsimp only; omega, by dsimp only; omega, by dsimp only; omega⟩, by dsimp only; omega, ?_⟩
    repeat' (first|((conv=>whnf); (first|refine brK_dec (fun _=>?_) (fun _=>?_)|refine brK_ndec (fun _=>?_) (fun _=>?_)|refine brK_not (fun _=>?_) (fun _=>?_)|refine brK_in (fun _=>?_) (fun _=>?_)|refine And.intro (by first|exact rfl|exact ⟨_,rfl,rfl⟩|exact ⟨rfl,rfl,rfl⟩|exact of_decide_eq_true rfl|exact trivial|assumption|omega|(show (_ ≤ _ ∧ _ ≤ _); omega)|(simp; omega)|exact ⟨by first|omega|(simp; omega),_,rfl,rfl⟩) ?_|refine Quo.l (And.intro (by first|exact rfl|assumption|omega|(simp; omega)) ?_)|refine Quo.r (And.intro (by omega) ?_)|refine Both.mk ?_ ?_|refine Exists.intro _ (And.intro rfl ?_)|refine opt_use (by assumption) ?_|refine vrow_use (by assumption) ?_|refine vrow_in (fun _ _=>?_)|refine fun _=>?_))|exact rfl)
  · exact h w
def gfit (g : List VxD) : Prop := ∀ v ∈ g, v.p.length ≤ 260
theorem gfit_app {g : List VxD} {v : VxD} (h : gfit g) (hv : v.p.length ≤ 260) : gfit (g ++ [v]) := by
  intro x hx
  rcases List.mem_append.1 hx with hx | hx
  · exact h x hx
  · rw [List.mem_singleton.1 hx]; exact hv
theorem mem_snoc {g : List VxD} {v : VxD} {P : VxD → Prop} (h : ∀ x ∈ g, P x) (hv : P v) : ∀ x ∈ g ++ [v], P x := by
  intro x hx
  rcases List.mem_append.1 hx with hx | hx
  · exact h x hx
  · rw [List.mem_singleton.1 hx]; exact hv
def c_spec_l91Graph : Con := ⟨1, 1, true, fun xs hs _ K => match xs, hs with
  | [.ptr 0 0, .ints c, .val (.int .i64 m)], [.cells [.bytes b, .val (.int .i64 off)]] => b.length ≤ 2000 ∧ 0 ≤ off ∧ off ≤ 200000 ∧ comV c = true ∧ c.length ≤ 20 ∧ 0 ≤ m ∧ m ≤ 13 ∧
    ∀ off' (g : List VxD), off ≤ off' → off' ≤ off + 100000 → g.length ≤ 260 → gfit g → K (.own 1) [rdO b off', .arr 4 (g.map VxD.row)] []
  | _, _ => False⟩
theorem k_spec_l91Graph : Keeps' Try.prog 66 c_spec_l91Graph := by
  refine keeps_of_vc mix TyT_ok (cok_cons k_spec_l11Authors Try.func73 rfl rfl (cok_cons k_spec_l6Rd_pick Try.func37 rfl rfl (cok_cons k_spec_l1Weight_n Try.func85 rfl rfl (cok_cons k_spec_l1Quorum Try.func86 rfl rfl (cok_cons k_spec_l11Vertex Try.func49 rfl rfl cok_nil))))) Try.func66 rfl rfl rfl ?_
  intro aargs hs Fs K h
  simp only [c_spec_l91Graph] at h
  split at h
  case h_2 => exact h.elim
  rename_i c m b off
  obtain ⟨hb, h0, h1, hc, hcl, hm0, hm1, h⟩ := h
  obtain ⟨hc1, hc2, hcx⟩ := com_out hc
  repeat' (first|((conv=>whnf); (first|refine brK_dec (fun _=>?_) (fun _=>?_)|refine brK_ndec (fun _=>?_) (fun _=>?_)|refine brK_not (fun _=>?_) (fun _=>?_)|refine brK_in (fun _=>?_) (fun _=>?_)|refine And.intro (by first|exact rfl|exact ⟨_,rfl,rfl⟩|exact ⟨rfl,rfl,rfl⟩|exact of_decide_eq_true rfl|exact trivial|assumption|omega|(show (_ ≤ _ ∧ _ ≤ _); omega)|(simp; omega)|exact ⟨by first|omega|(simp; omega),_,rfl,rfl⟩) ?_|refine Quo.l (And.intro (by first|exact rfl|assumption|omega|(simp; omega)) ?_)|refine Quo.r (And.intro (by omega) ?_)|refine Both.mk ?_ ?_|refine Exists.intro _ (And.intro rfl ?_)|refine opt_use (by assumption) ?_|refine fun _=>?_))|exact rfl)
  refine loop_in (ι := Nat × Int × List VxD) (fun q => mkS 90 [(0, .ptr 0 0), (1, .ints c), (2, I m), (7, .own 1), (8, I q.1)] [rdO b q.2.1, .arr 4 (q.2.2.map VxD.row)] Fs)
    (fun q => (q.1 : Int) ≤ m ∧ off ≤ q.2.1 ∧ q.2.1 ≤ off + 6000 * q.1 ∧ q.2.2.length ≤ 20 * q.1 ∧ gfit q.2.2 ∧ ∀ v ∈ q.2.2, 0 ≤ v.a ∧ v.a < c.length) (fun q => m.toNat - q.1) (0, off, []) [0, 1] ⟨by simp; omega, by simp, by simp, by simp, by simp [gfit], by simp⟩ ?_ ?_
  · repeat' (first|((conv=>whnf); (first|refine brK_dec (fun _=>?_) (fun _=>?_)|refine brK_ndec (fun _=>?_) (fun _=>?_)|refine brK_not (fun _=>?_) (fun _=>?_)|refine brK_in (fun _=>?_) (fun _=>?_)|refine And.intro (by first|exact rfl|exact ⟨_,rfl,rfl⟩|exact ⟨rfl,rfl,rfl⟩|exact of_decide_eq_true rfl|exact trivial|assumption|omega|(show (_ ≤ _ ∧ _ ≤ _); omega)|(simp; omega)|exact ⟨by first|omega|(simp; omega),_,rfl,rfl⟩) ?_|refine Quo.l (And.intro (by first|exact rfl|assumption|omega|(simp; omega)) ?_)|refine Quo.r (And.intro (by omega) ?_)|refine Both.mk ?_ ?_|refine Exists.intro _ (And.intro rfl ?_)|refine opt_use (by assumption) ?_|refine fun _=>?_))|exact rfl)
  rintro ⟨n, o, g⟩ ⟨w1, w2, w3, w4, w5, w6⟩
  dsimp only at w1 w2 w3 w4 w5 w6 ⊢
  have hlen : (g.map VxD.row).length = g.length := by simp
  repeat' (first|((conv=>whnf); (first|refine brK_dec (fun _=>?_) (fun _=>?_)|refine brK_ndec (fun _=>?_) (fun _=>?_)|refine brK_not (fun _=>?_) (fun _=>?_)|refine brK_in (fun _=>?_) (fun _=>?_)|refine And.intro (by first|exact rfl|exact ⟨_,rfl,rfl⟩|exact ⟨rfl,rfl,rfl⟩|exact of_decide_eq_true rfl|exact trivial|assumption|omega|(show (_ ≤ _ ∧ _ ≤ _); omega)|(simp; omega)|exact ⟨by first|omega|(simp; omega),_,rfl,rfl⟩) ?_|refine Quo.l (And.intro (by first|exact rfl|assumption|omega|(simp; omega)) ?_)|refine Quo.r (And.intro (by omega) ?_)|refine Both.mk ?_ ?_|refine Exists.intro _ (And.intro rfl ?_)|refine opt_use (by assumption) ?_|refine fun _=>?_))|exact rfl)
  · rename_i hnm l hll hlx
    have hlr : ∀ x ∈ l, 0 ≤ x ∧ x < c.length := fun x hx => by
      obtain ⟨v, hv, rfl⟩ := hlx x hx
      exact w6 v hv
    refine loop_in (ι := Nat × Int × List VxD) (fun q => mkS 90 [(0, .ptr 0 0), (1, .ints c), (2, I m), (7, .own 1), (8, I n), (9, .own 2), (10, I q.1)] [rdO b q.2.1, .arr 4 (q.2.2.map VxD.row), .iarr l] Fs)
      (fun q => q.1 ≤ c.length ∧ off ≤ q.2.1 ∧ q.2.1 ≤ off + 6000 * n + 270 * q.1 ∧ q.2.2.length ≤ 20 * n + q.1 ∧ gfit q.2.2 ∧ ∀ v ∈ q.2.2, 0 ≤ v.a ∧ v.a < c.length) (fun q => c.length - q.1) (0, o, g) [0, 1, 2] ⟨Nat.zero_le _, w2, by simp; omega, by simp; omega, w5, w6⟩ ?_ ?_
    · repeat' (first|((conv=>whnf); (first|refine brK_dec (fun _=>?_) (fun _=>?_)|refine brK_ndec (fun _=>?_) (fun _=>?_)|refine brK_not (fun _=>?_) (fun _=>?_)|refine brK_in (fun _=>?_) (fun _=>?_)|refine And.intro (by first|exact rfl|exact ⟨_,rfl,rfl⟩|exact ⟨rfl,rfl,rfl⟩|exact of_decide_eq_true rfl|exact trivial|assumption|omega|(show (_ ≤ _ ∧ _ ≤ _); omega)|(simp; omega)|exact ⟨by first|omega|(simp; omega),_,rfl,rfl⟩) ?_|refine Quo.l (And.intro (by first|exact rfl|assumption|omega|(simp; omega)) ?_)|refine Quo.r (And.intro (by omega) ?_)|refine Both.mk ?_ ?_|refine Exists.intro _ (And.intro rfl ?_)|refine opt_use (by assumption) ?_|refine fun _=>?_))|exact rfl)
    rintro ⟨a, o, g⟩ ⟨v1, v2, v3, v4, v5, v6⟩
    dsimp only at v1 v2 v3 v4 v5 v6 ⊢
    have hlen : (g.map VxD.row).length = g.length := by simp
    repeat' (first|((conv=>whnf); (first|refine brK_dec (fun _=>?_) (fun _=>?_)|refine brK_ndec (fun _=>?_) (fun _=>?_)|refine brK_not (fun _=>?_) (fun _=>?_)|refine brK_in (fun _=>?_) (fun _=>?_)|refine And.intro (by first|exact rfl|exact ⟨_,rfl,rfl⟩|exact ⟨rfl,rfl,rfl⟩|exact of_decide_eq_true rfl|exact trivial|assumption|omega|(show (_ ≤ _ ∧ _ ≤ _); omega)|(simp; omega)|exact ⟨by first|omega|(simp; omega),_,rfl,rfl⟩) ?_|refine Quo.l (And.intro (by first|exact rfl|assumption|omega|(simp; omega)) ?_)|refine Quo.r (And.intro (by omega) ?_)|refine Both.mk ?_ ?_|refine Exists.intro _ (And.intro rfl ?_)|refine opt_use (by assumption) ?_|refine fun _=>?_))|exact rfl)
    · rename_i hac z hz0 hz1 hz
      refine ⟨(a + 1, o + 1, g), [0, 1, 2], ⟨by dsimp only; omega, by dsimp only; omega, by dsimp only; omega, by dsimp only; omega, v5, v6⟩, by dsimp only; omega, ?_⟩
      repeat' (first|((conv=>whnf); (first|refine brK_dec (fun _=>?_) (fun _=>?_)|refine brK_ndec (fun _=>?_) (fun _=>?_)|refine brK_not (fun _=>?_) (fun _=>?_)|refine brK_in (fun _=>?_) (fun _=>?_)|refine And.intro (by first|exact rfl|exact ⟨_,rfl,rfl⟩|exact ⟨rfl,rfl,rfl⟩|exact of_decide_eq_true rfl|exact trivial|assumption|omega|(show (_ ≤ _ ∧ _ ≤ _); omega)|(simp; omega)|exact ⟨by first|omega|(simp; omega),_,rfl,rfl⟩) ?_|refine Quo.l (And.intro (by first|exact rfl|assumption|omega|(simp; omega)) ?_)|refine Quo.r (And.intro (by omega) ?_)|refine Both.mk ?_ ?_|refine Exists.intro _ (And.intro rfl ?_)|refine opt_use (by assumption) ?_|refine fun _=>?_))|exact rfl)
    · rename_i hac z hz0 hz1 hz d hd0 hd1
      refine loop_in (ι := Nat × Int × List Int) (fun q => mkS 90 [(0, .ptr 0 0), (1, .ints c), (2, I m), (7, .own 1), (8, I n), (9, .own 2), (10, I a), (11, .ptr 4 0), (12, I q.1)] [rdO b q.2.1, .arr 4 (g.map VxD.row), .iarr l, .iarr q.2.2, .cells [I n, I a, .own 3, I ((31 * n + 7 * a + d) % 991)]] Fs)
        (fun q => q.1 ≤ l.length ∧ off ≤ q.2.1 ∧ q.2.1 ≤ o + 2 + q.1 ∧ q.2.2.length ≤ q.1 ∧ ∀ x ∈ q.2.2, 0 ≤ x ∧ x < c.length) (fun q => l.length - q.1) (0, o + 1 + 1, []) [0, 1, 2, 3, 4] ⟨Nat.zero_le _, by simp; omega, by simp; omega, by simp, by simp⟩ ?_ ?_
      · repeat' (first|((conv=>whnf); (first|refine brK_dec (fun _=>?_) (fun _=>?_)|refine brK_ndec (fun _=>?_) (fun _=>?_)|refine brK_not (fun _=>?_) (fun _=>?_)|refine brK_in (fun _=>?_) (fun _=>?_)|refine And.intro (by first|exact rfl|exact ⟨_,rfl,rfl⟩|exact ⟨rfl,rfl,rfl⟩|exact of_decide_eq_true rfl|exact trivial|assumption|omega|(show (_ ≤ _ ∧ _ ≤ _); omega)|(simp; omega)|exact ⟨by first|omega|(simp; omega),_,rfl,rfl⟩) ?_|refine Quo.l (And.intro (by first|exact rfl|assumption|omega|(simp; omega)) ?_)|refine Quo.r (And.intro (by omega) ?_)|refine Both.mk ?_ ?_|refine Exists.intro _ (And.intro rfl ?_)|refine opt_use (by assumption) ?_|refine fun _=>?_))|exact rfl)
      rintro ⟨k, o1, p⟩ ⟨u1, u2, u3, u4, u5⟩
      dsimp only at u1 u2 u3 u4 u5 ⊢
      repeat' (first|((conv=>whnf); (first|refine draw_plan (id := 15) [3] [9] (.take 0 (.take 1 (.take 2 (.take 3 (.take 4 (.take 5 (.run 6 (.run 7 (.take 8 (.run 9 .done)))))))))) (by kernel_rfl) (by kernel_rfl) ?_|refine brK_dec (fun _=>?_) (fun _=>?_)|refine brK_ndec (fun _=>?_) (fun _=>?_)|refine brK_not (fun _=>?_) (fun _=>?_)|refine brK_in (fun _=>?_) (fun _=>?_)|refine And.intro (by first|exact rfl|exact (by first|exact Nat.le_trans (Nat.mul_le_mul_right _ (show _ ≤ 1000 from by simp [chunks]; omega)) (by decide)|(simp [chunks]; omega))|exact ⟨_,rfl,rfl⟩|exact ⟨rfl,rfl,rfl⟩|exact of_decide_eq_true rfl|exact trivial|assumption|omega|(show (_ ≤ _ ∧ _ ≤ _); omega)|(simp; omega)|exact ⟨by first|omega|(simp; omega),_,rfl,rfl⟩) ?_|refine Quo.l (And.intro (by first|exact rfl|exact (by first|exact Nat.le_trans (Nat.mul_le_mul_right _ (show _ ≤ 1000 from by simp [chunks]; omega)) (by decide)|(simp [chunks]; omega))|assumption|omega|(simp; omega)) ?_)|refine Quo.r (And.intro (by omega) ?_)|refine Both.mk ?_ ?_|refine Exists.intro _ (And.intro rfl ?_)|refine opt_use (by assumption) ?_|refine fun _=>?_))|exact rfl)
      · rename_i x hx
        have hx : l[k]? = some x := hx
        have hxr := hlr x (List.mem_of_getElem? hx)
        refine ⟨(k + 1, o1 + 1, p ++ [x]), [0, 1, 2, 3, 4], ⟨by dsimp only; omega, by dsimp only; omega, by dsimp only; omega, by dsimp only; simp; omega, fun y hy => ?_⟩, by dsimp only; omega, ?_⟩
        · rcases List.mem_append.1 hy with hy | hy
          · exact u5 y hy
          · rw [List.mem_singleton.1 hy]; exact hxr
        repeat' (first|((conv=>whnf); (first|refine brK_dec (fun _=>?_) (fun _=>?_)|refine brK_ndec (fun _=>?_) (fun _=>?_)|refine brK_not (fun _=>?_) (fun _=>?_)|refine brK_in (fun _=>?_) (fun _=>?_)|refine And.intro (by first|exact rfl|exact (by rw [List.take_length])|exact ⟨_,rfl,rfl⟩|exact ⟨rfl,rfl,rfl⟩|exact of_decide_eq_true rfl|exact trivial|assumption|omega|(show (_ ≤ _ ∧ _ ≤ _); omega)|(simp; omega)|exact ⟨by first|omega|(simp; omega),_,rfl,rfl⟩) ?_|refine Quo.l (And.intro (by first|exact rfl|exact (by rw [List.take_length])|assumption|omega|(simp; omega)) ?_)|refine Quo.r (And.intro (by omega) ?_)|refine Both.mk ?_ ?_|refine Exists.intro _ (And.intro rfl ?_)|refine opt_use (by assumption) ?_|refine fun _=>?_))|exact rfl)
      · refine ⟨(k + 1, o1 + 1, p), [0, 1, 2, 3, 4], ⟨by dsimp only; omega, by dsimp only; omega, by dsimp only; omega, by dsimp only; omega, u5⟩, by dsimp only; omega, ?_⟩
        repeat' (first|((conv=>whnf); (first|refine brK_dec (fun _=>?_) (fun _=>?_)|refine brK_ndec (fun _=>?_) (fun _=>?_)|refine brK_not (fun _=>?_) (fun _=>?_)|refine brK_in (fun _=>?_) (fun _=>?_)|refine And.intro (by first|exact rfl|exact ⟨_,rfl,rfl⟩|exact ⟨rfl,rfl,rfl⟩|exact of_decide_eq_true rfl|exact trivial|assumption|omega|(show (_ ≤ _ ∧ _ ≤ _); omega)|(simp; omega)|exact ⟨by first|omega|(simp; omega),_,rfl,rfl⟩) ?_|refine Quo.l (And.intro (by first|exact rfl|assumption|omega|(simp; omega)) ?_)|refine Quo.r (And.intro (by omega) ?_)|refine Both.mk ?_ ?_|refine Exists.intro _ (And.intro rfl ?_)|refine opt_use (by assumption) ?_|refine fun _=>?_))|exact rfl)
      · refine ⟨(k + 1, o1, p), [0, 1, 2, 3, 4], ⟨by dsimp only; omega, by dsimp only; omega, by dsimp only; omega, by dsimp only; omega, u5⟩, by dsimp only; omega, ?_⟩
        repeat' (first|((conv=>whnf); (first|refine brK_dec (fun _=>?_) (fun _=>?_)|refine brK_ndec (fun _=>?_) (fun _=>?_)|refine brK_not (fun _=>?_) (fun _=>?_)|refine brK_in (fun _=>?_) (fun _=>?_)|refine And.intro (by first|exact rfl|exact ⟨_,rfl,rfl⟩|exact ⟨rfl,rfl,rfl⟩|exact of_decide_eq_true rfl|exact trivial|assumption|omega|(show (_ ≤ _ ∧ _ ≤ _); omega)|(simp; omega)|exact ⟨by first|omega|(simp; omega),_,rfl,rfl⟩) ?_|refine Quo.l (And.intro (by first|exact rfl|assumption|omega|(simp; omega)) ?_)|refine Quo.r (And.intro (by omega) ?_)|refine Both.mk ?_ ?_|refine Exists.intro _ (And.intro rfl ?_)|refine opt_use (by assumption) ?_|refine fun _=>?_))|exact rfl)
      · refine ⟨(a + 1, o1, g ++ [⟨n, a, l, (31 * n + 7 * a + d) % 991⟩]), [0, 1, 2], ⟨by dsimp only; omega, by dsimp only; omega, by dsimp only; omega, by dsimp only; simp; omega, gfit_app v5 (by dsimp only; omega), mem_snoc v6 (by dsimp only; omega)⟩, by dsimp only; omega, ?_⟩
        repeat' (first|((conv=>whnf); (first|refine brK_dec (fun _=>?_) (fun _=>?_)|refine brK_ndec (fun _=>?_) (fun _=>?_)|refine brK_not (fun _=>?_) (fun _=>?_)|refine brK_in (fun _=>?_) (fun _=>?_)|refine And.intro (by first|exact rfl|exact (by rw [List.take_length,List.map_append]; rfl)|exact ⟨_,rfl,rfl⟩|exact ⟨rfl,rfl,rfl⟩|exact of_decide_eq_true rfl|exact trivial|assumption|omega|(show (_ ≤ _ ∧ _ ≤ _); omega)|(simp; omega)|exact ⟨by first|omega|(simp; omega),_,rfl,rfl⟩) ?_|refine Quo.l (And.intro (by first|exact rfl|exact (by rw [List.take_length,List.map_append]; rfl)|assumption|omega|(simp; omega)) ?_)|refine Quo.r (And.intro (by omega) ?_)|refine Both.mk ?_ ?_|refine Exists.intro _ (And.intro rfl ?_)|refine opt_use (by assumption) ?_|refine fun _=>?_))|exact rfl)
      · refine ⟨(a + 1, o1, g), [0, 1, 2], ⟨by dsimp only; omega, by dsimp only; omega, by dsimp only; omega, by dsimp only; omega, v5, v6⟩, by dsimp only; omega, ?_⟩
        repeat' (first|((conv=>whnf); (first|refine brK_dec (fun _=>?_) (fun _=>?_)|refine brK_ndec (fun _=>?_) (fun _=>?_)|refine brK_not (fun _=>?_) (fun _=>?_)|refine brK_in (fun _=>?_) (fun _=>?_)|refine And.intro (by first|exact rfl|exact ⟨_,rfl,rfl⟩|exact ⟨rfl,rfl,rfl⟩|exact of_decide_eq_true rfl|exact trivial|assumption|omega|(show (_ ≤ _ ∧ _ ≤ _); omega)|(simp; omega)|exact ⟨by first|omega|(simp; omega),_,rfl,rfl⟩) ?_|refine Quo.l (And.intro (by first|exact rfl|assumption|omega|(simp; omega)) ?_)|refine Quo.r (And.intro (by omega) ?_)|refine Both.mk ?_ ?_|refine Exists.intro _ (And.intro rfl ?_)|refine opt_use (by assumption) ?_|refine fun _=>?_))|exact rfl)
      · refine ⟨(a + 1, o1, g ++ [⟨n, a, p, (31 * n + 7 * a + d) % 991⟩]), [0, 1, 2], ⟨by dsimp only; omega, by dsimp only; omega, by dsimp only; omega, by dsimp only; simp; omega, gfit_app v5 (by dsimp only; omega), mem_snoc v6 (by dsimp only; omega)⟩, by dsimp only; omega, ?_⟩
        repeat' (first|((conv=>whnf); (first|refine brK_dec (fun _=>?_) (fun _=>?_)|refine brK_ndec (fun _=>?_) (fun _=>?_)|refine brK_not (fun _=>?_) (fun _=>?_)|refine brK_in (fun _=>?_) (fun _=>?_)|refine And.intro (by first|exact rfl|exact (by rw [List.take_length,List.map_append]; rfl)|exact ⟨_,rfl,rfl⟩|exact ⟨rfl,rfl,rfl⟩|exact of_decide_eq_true rfl|exact trivial|assumption|omega|(show (_ ≤ _ ∧ _ ≤ _); omega)|(simp; omega)|exact ⟨by first|omega|(simp; omega),_,rfl,rfl⟩) ?_|refine Quo.l (And.intro (by first|exact rfl|exact (by rw [List.take_length,List.map_append]; rfl)|assumption|omega|(simp; omega)) ?_)|refine Quo.r (And.intro (by omega) ?_)|refine Both.mk ?_ ?_|refine Exists.intro _ (And.intro rfl ?_)|refine opt_use (by assumption) ?_|refine fun _=>?_))|exact rfl)
      · refine ⟨(a + 1, o1, g), [0, 1, 2], ⟨by dsimp only; omega, by dsimp only; omega, by dsimp only; omega, by dsimp only; omega, v5, v6⟩, by dsimp only; omega, ?_⟩
        repeat' (first|((conv=>whnf); (first|refine brK_dec (fun _=>?_) (fun _=>?_)|refine brK_ndec (fun _=>?_) (fun _=>?_)|refine brK_not (fun _=>?_) (fun _=>?_)|refine brK_in (fun _=>?_) (fun _=>?_)|refine And.intro (by first|exact rfl|exact ⟨_,rfl,rfl⟩|exact ⟨rfl,rfl,rfl⟩|exact of_decide_eq_true rfl|exact trivial|assumption|omega|(show (_ ≤ _ ∧ _ ≤ _); omega)|(simp; omega)|exact ⟨by first|omega|(simp; omega),_,rfl,rfl⟩) ?_|refine Quo.l (And.intro (by first|exact rfl|assumption|omega|(simp; omega)) ?_)|refine Quo.r (And.intro (by omega) ?_)|refine Both.mk ?_ ?_|refine Exists.intro _ (And.intro rfl ?_)|refine opt_use (by assumption) ?_|refine fun _=>?_))|exact rfl)
      · refine ⟨(a + 1, o1, g ++ [⟨n, a, p, (31 * n + 7 * a + d) % 991⟩]), [0, 1, 2], ⟨by dsimp only; omega, by dsimp only; omega, by dsimp only; omega, by dsimp only; simp; omega, gfit_app v5 (by dsimp only; omega), mem_snoc v6 (by dsimp only; omega)⟩, by dsimp only; omega, ?_⟩
        repeat' (first|((conv=>whnf); (first|refine brK_dec (fun _=>?_) (fun _=>?_)|refine brK_ndec (fun _=>?_) (fun _=>?_)|refine brK_not (fun _=>?_) (fun _=>?_)|refine brK_in (fun _=>?_) (fun _=>?_)|refine And.intro (by first|exact rfl|exact (by rw [List.take_length,List.map_append]; rfl)|exact ⟨_,rfl,rfl⟩|exact ⟨rfl,rfl,rfl⟩|exact of_decide_eq_true rfl|exact trivial|assumption|omega|(show (_ ≤ _ ∧ _ ≤ _); omega)|(simp; omega)|exact ⟨by first|omega|(simp; omega),_,rfl,rfl⟩) ?_|refine Quo.l (And.intro (by first|exact rfl|exact (by rw [List.take_length,List.map_append]; rfl)|assumption|omega|(simp; omega)) ?_)|refine Quo.r (And.intro (by omega) ?_)|refine Both.mk ?_ ?_|refine Exists.intro _ (And.intro rfl ?_)|refine opt_use (by assumption) ?_|refine fun _=>?_))|exact rfl)
      · refine ⟨(a + 1, o1, g), [0, 1, 2], ⟨by dsimp only; omega, by dsimp only; omega, by dsimp only; omega, by dsimp only; omega, v5, v6⟩, by dsimp only; omega, ?_⟩
        repeat' (first|((conv=>whnf); (first|refine brK_dec (fun _=>?_) (fun _=>?_)|refine brK_ndec (fun _=>?_) (fun _=>?_)|refine brK_not (fun _=>?_) (fun _=>?_)|refine brK_in (fun _=>?_) (fun _=>?_)|refine And.intro (by first|exact rfl|exact ⟨_,rfl,rfl⟩|exact ⟨rfl,rfl,rfl⟩|exact of_decide_eq_true rfl|exact trivial|assumption|omega|(show (_ ≤ _ ∧ _ ≤ _); omega)|(simp; omega)|exact ⟨by first|omega|(simp; omega),_,rfl,rfl⟩) ?_|refine Quo.l (And.intro (by first|exact rfl|assumption|omega|(simp; omega)) ?_)|refine Quo.r (And.intro (by omega) ?_)|refine Both.mk ?_ ?_|refine Exists.intro _ (And.intro rfl ?_)|refine opt_use (by assumption) ?_|refine fun _=>?_))|exact rfl)
    · rename_i hac
      refine ⟨(n + 1, o, g), [0, 1], ⟨by dsimp only; omega, v2, by dsimp only; omega, by dsimp only; omega, v5, v6⟩, by dsimp only; omega, ?_⟩
      repeat' (first|((conv=>whnf); (first|refine brK_dec (fun _=>?_) (fun _=>?_)|refine brK_ndec (fun _=>?_) (fun _=>?_)|refine brK_not (fun _=>?_) (fun _=>?_)|refine brK_in (fun _=>?_) (fun _=>?_)|refine And.intro (by first|exact rfl|exact ⟨_,rfl,rfl⟩|exact ⟨rfl,rfl,rfl⟩|exact of_decide_eq_true rfl|exact trivial|assumption|omega|(show (_ ≤ _ ∧ _ ≤ _); omega)|(simp; omega)|exact ⟨by first|omega|(simp; omega),_,rfl,rfl⟩) ?_|refine Quo.l (And.intro (by first|exact rfl|assumption|omega|(simp; omega)) ?_)|refine Quo.r (And.intro (by omega) ?_)|refine Both.mk ?_ ?_|refine Exists.intro _ (And.intro rfl ?_)|refine opt_use (by assumption) ?_|refine fun _=>?_))|exact rfl)
  · rename_i hnm
    exact h o g w2 (by omega) (by omega) w5
end Go.Proofs.Ytalbgcpfekmfoaa
namespace Go.Proofs.Ytalbgcpfekmfoaa
open Go Go.Vc
set_option maxHeartbeats 4000000
set_option maxRecDepth 10000
def c_spec_l91Members : Con := ⟨1, 1, false, fun xs hs _ K => match xs, hs with
  | [.ptr 0 0, .val (.int .i64 n)], [.cells [.bytes b, .val (.int .i64 off)]] => b.length ≤ 2000 ∧ 0 ≤ off ∧ off ≤ 900000 ∧ 0 ≤ n ∧ n ≤ 20 ∧ ∀ off' l, off ≤ off' → off' ≤ off + 100 → l.length ≤ 30 → K (.own 1) [rdO b off', .iarr l] []
  | _, _ => False⟩
theorem k_spec_l91Members : Keeps' Try.prog 67 c_spec_l91Members := by
  refine keeps_of_vc mix TyT_ok (cok_cons k_spec_l6Rd_pick Try.func37 rfl rfl cok_nil) Try.func67 rfl rfl rfl ?_
  intro aargs hs Fs K h
  simp only [c_spec_l91Members] at h
  split at h
  case h_2 => exact h.elim
  rename_i n b off
  obtain ⟨hb, h0, h1, hn0, hn1, h⟩ := h
  repeat' (first|((conv=>whnf); (first|refine brK_dec (fun _=>?_) (fun _=>?_)|refine brK_ndec (fun _=>?_) (fun _=>?_)|refine brK_not (fun _=>?_) (fun _=>?_)|refine brK_in (fun _=>?_) (fun _=>?_)|refine And.intro (by first|exact rfl|exact ⟨_,rfl,rfl⟩|exact ⟨rfl,rfl,rfl⟩|exact of_decide_eq_true rfl|exact trivial|assumption|omega|(show (_ ≤ _ ∧ _ ≤ _); omega)|(simp; omega)|exact ⟨by first|omega|(simp; omega),_,rfl,rfl⟩) ?_|refine Quo.l (And.intro (by first|exact rfl|assumption|omega|(simp; omega)) ?_)|refine Quo.r (And.intro (by omega) ?_)|refine Both.mk ?_ ?_|refine Exists.intro _ (And.intro rfl ?_)|refine fun _=>?_))|exact rfl)
  refine loop_in (ι := Nat × Int × List Int) (fun g => mkS 37 [(0, .ptr 0 0), (1, I n), (4, .val (.slice none 0 0)), (5, .own 1), (6, I g.1)] [rdO b g.2.1, .iarr g.2.2] Fs)
    (fun g => (g.1 : Int) ≤ n ∧ off ≤ g.2.1 ∧ g.2.1 ≤ off + g.1 ∧ g.2.2.length ≤ g.1) (fun g => n.toNat - g.1) (0, off, []) [0, 1] ⟨by simp; omega, by simp, by simp, by simp⟩ ?_ ?_
  · repeat' (first|((conv=>whnf); (first|refine brK_dec (fun _=>?_) (fun _=>?_)|refine brK_ndec (fun _=>?_) (fun _=>?_)|refine brK_not (fun _=>?_) (fun _=>?_)|refine brK_in (fun _=>?_) (fun _=>?_)|refine And.intro (by first|exact rfl|exact ⟨_,rfl,rfl⟩|exact ⟨rfl,rfl,rfl⟩|exact of_decide_eq_true rfl|exact trivial|assumption|omega|(show (_ ≤ _ ∧ _ ≤ _); omega)|(simp; omega)|exact ⟨by first|omega|(simp; omega),_,rfl,rfl⟩) ?_|refine Quo.l (And.intro (by first|exact rfl|assumption|omega|(simp; omega)) ?_)|refine Quo.r (And.intro (by omega) ?_)|refine Both.mk ?_ ?_|refine Exists.intro _ (And.intro rfl ?_)|refine fun _=>?_))|exact rfl)
  rintro ⟨i, o, l⟩ ⟨hi, ho1, ho2, hl⟩
  dsimp only at hi ho1 ho2 hl ⊢
  repeat' (first|((conv=>whnf); (first|refine brK_dec (fun _=>?_) (fun _=>?_)|refine brK_ndec (fun _=>?_) (fun _=>?_)|refine brK_not (fun _=>?_) (fun _=>?_)|refine brK_in (fun _=>?_) (fun _=>?_)|refine And.intro (by first|exact rfl|exact ⟨_,rfl,rfl⟩|exact ⟨rfl,rfl,rfl⟩|exact of_decide_eq_true rfl|exact trivial|assumption|omega|(show (_ ≤ _ ∧ _ ≤ _); omega)|(simp; omega)|exact ⟨by first|omega|(simp; omega),_,rfl,rfl⟩) ?_|refine Quo.l (And.intro (by first|exact rfl|assumption|omega|(simp; omega)) ?_)|refine Quo.r (And.intro (by omega) ?_)|refine Both.mk ?_ ?_|refine Exists.intro _ (And.intro rfl ?_)|refine fun _=>?_))|exact rfl)
  · refine ⟨(i + 1, o + 1, List.take l.length l ++ [(i : Int)]), [0, 1], ⟨by dsimp only; omega, by dsimp only; omega, by dsimp only; omega, by dsimp only; simp; omega⟩, by dsimp only; omega, ?_⟩
    repeat' (first|((conv=>whnf); (first|refine brK_dec (fun _=>?_) (fun _=>?_)|refine brK_ndec (fun _=>?_) (fun _=>?_)|refine brK_not (fun _=>?_) (fun _=>?_)|refine brK_in (fun _=>?_) (fun _=>?_)|refine And.intro (by first|exact rfl|exact ⟨_,rfl,rfl⟩|exact ⟨rfl,rfl,rfl⟩|exact of_decide_eq_true rfl|exact trivial|assumption|omega|(show (_ ≤ _ ∧ _ ≤ _); omega)|(simp; omega)|exact ⟨by first|omega|(simp; omega),_,rfl,rfl⟩) ?_|refine Quo.l (And.intro (by first|exact rfl|assumption|omega|(simp; omega)) ?_)|refine Quo.r (And.intro (by omega) ?_)|refine Both.mk ?_ ?_|refine Exists.intro _ (And.intro rfl ?_)|refine fun _=>?_))|exact rfl)
  · refine ⟨(i + 1, o + 1, l), [0, 1], ⟨by dsimp only; omega, by dsimp only; omega, by dsimp only; omega, by dsimp only; omega⟩, by dsimp only; omega, ?_⟩
    repeat' (first|((conv=>whnf); (first|refine brK_dec (fun _=>?_) (fun _=>?_)|refine brK_ndec (fun _=>?_) (fun _=>?_)|refine brK_not (fun _=>?_) (fun _=>?_)|refine brK_in (fun _=>?_) (fun _=>?_)|refine And.intro (by first|exact rfl|exact ⟨_,rfl,rfl⟩|exact ⟨rfl,rfl,rfl⟩|exact of_decide_eq_true rfl|exact trivial|assumption|omega|(show (_ ≤ _ ∧ _ ≤ _); omega)|(simp; omega)|exact ⟨by first|omega|(simp; omega),_,rfl,rfl⟩) ?_|refine Quo.l (And.intro (by first|exact rfl|assumption|omega|(simp; omega)) ?_)|refine Quo.r (And.intro (by omega) ?_)|refine Both.mk ?_ ?_|refine Exists.intro _ (And.intro rfl ?_)|refine fun _=>?_))|exact rfl)
  all_goals exact h _ _ (by omega) (by omega) (by first | omega | (simp; omega))
theorem gfit_set {g : List VxD} {v : VxD} {i : Nat} (h : gfit g) (hv : v.p.length ≤ 260) : gfit (g.set i v) := by
  intro x hx
  rcases List.mem_or_eq_of_mem_set hx with hx | hx
  · exact h x hx
  · rw [hx]; exact hv
/-- How a committee is handed back: only read, as an object, or as an empty part of one. -/
def shC (r : AV) (hs : List AO) (c : List Int) : Prop := (r = .ints c ∧ hs = []) ∨ (r = .own 1 ∧ hs = [.iarr c]) ∨ (r = .sub 1 0 0 ∧ c = [] ∧ ∃ d, hs = [.iarr d])
def c_spec_l91Spoilt : Con := ⟨2, 1, true, fun xs hs _ K => match xs, hs with
  | [.ptr 0 0, .val (.int .i64 m)], [.cells [.bytes b, .val (.int .i64 off)]] => b.length ≤ 2000 ∧ 0 ≤ off ∧ off ≤ 100000 ∧ 0 ≤ m ∧ m ≤ 13 ∧
    ∀ off' c (g : List VxD) r hs, off ≤ off' → off' ≤ off + 110000 → c.length ≤ 20 → g.length ≤ 261 → gfit g → shC r hs c → K (.tup [r, .own (1 + hs.length)]) (rdO b off' :: (hs ++ [.arr 4 (g.map VxD.row)])) []
  | _, _ => False⟩
theorem k_spec_l91Spoilt : Keeps' Try.prog 36 c_spec_l91Spoilt := by
  refine keeps_of_vc mix TyT_ok (cok_cons k_spec_l91Good Try.func65 rfl rfl (cok_cons k_spec_l91Graph Try.func66 rfl rfl (cok_cons k_spec_l6Rd_pick Try.func37 rfl rfl (cok_cons k_spec_l91Digest Try.func39 rfl rfl (cok_cons k_spec_l91Members Try.func67 rfl rfl (cok_cons k_spec_l91Committee Try.func68 rfl rfl cok_nil)))))) Try.func36 rfl rfl rfl ?_
  intro aargs hs Fs K h
  simp only [c_spec_l91Spoilt] at h
  split at h
  case h_2 => exact h.elim
  rename_i m b off
  obtain ⟨hb, h0, h1, hm0, hm1, h⟩ := h
  repeat' (first|((conv=>whnf); (first|refine brK_dec (fun _=>?_) (fun _=>?_)|refine brK_ndec (fun _=>?_) (fun _=>?_)|refine brK_not (fun _=>?_) (fun _=>?_)|refine brK_in (fun _=>?_) (fun _=>?_)|refine And.intro (by first|exact rfl|exact (by first|(simp; omega)|exact Nat.le_trans (Nat.mul_le_mul_right _ (show _ ≤ 1000 from by simp [chunks]; omega)) (by decide)|(simp [chunks]; omega))|exact ⟨_,rfl,rfl⟩|exact ⟨rfl,rfl,rfl⟩|exact of_decide_eq_true rfl|exact trivial|assumption|omega|(show (_ ≤ _ ∧ _ ≤ _); omega)|(simp; omega)|exact ⟨by first|omega|(simp; omega),_,rfl,rfl⟩) ?_|refine Quo.l (And.intro (by first|exact rfl|exact (by first|(simp; omega)|exact Nat.le_trans (Nat.mul_le_mul_right _ (show _ ≤ 1000 from by simp [chunks]; omega)) (by decide)|(simp [chunks]; omega))|assumption|omega|(simp; omega)) ?_)|refine Quo.r (And.intro (by omega) ?_)|refine Both.mk ?_ ?_|refine Exists.intro _ (And.intro rfl ?_)|refine opt_use (by assumption) ?_|refine vrow_use (by assumption) ?_|refine vrow_in (fun _ _=>?_)|refine fun _=>?_))|exact rfl)
  · rename_i o1 c p1 p2 p3 p4 o2 g q1 q2 q3 q4 q5
    exact h o2 c g _ _ (by omega) (by omega) p3 (by omega) q4 (.inl ⟨rfl, rfl⟩)
  · rename_i o1 c p1 p2 p3 p4 o2 g q1 q2 q3 q4 hne k k0 k1 z z0 z1 hz o3 d w1 w2 w3 w4 x hx
    have hx : g[k.toNat]? = some x := hx
    have e1 : (g.map VxD.row).set k.toNat (splice x.row 3 [I d]) = (g.set k.toNat ⟨x.r, x.a, x.p, d⟩).map VxD.row := by rw [List.map_set]; rfl
    have hfx := q4 x (List.mem_of_getElem? hx)
    have e2 := h (o3) c (g.set k.toNat ⟨x.r, x.a, x.p, d⟩) _ _ (by omega) (by omega) p3 (by simp; omega) (gfit_set q4 (by dsimp only; omega)) (.inl ⟨rfl, rfl⟩)
    rw [← e1] at e2
    exact e2
  · rename_i o1 c p1 p2 p3 p4 o2 g q1 q2 q3 q4 hne k k0 k1 z z0 z1 hz hz2 y y0 y1 x hx
    have hx : g[k.toNat]? = some x := hx
    have e1 : (g.map VxD.row).set k.toNat (splice x.row 0 [I (y - 1)]) = (g.set k.toNat ⟨y - 1, x.a, x.p, x.d⟩).map VxD.row := by rw [List.map_set]; rfl
    have hfx := q4 x (List.mem_of_getElem? hx)
    have e2 := h (o2 + 1 + 1 + 1) c (g.set k.toNat ⟨y - 1, x.a, x.p, x.d⟩) _ _ (by omega) (by omega) p3 (by simp; omega) (gfit_set q4 (by dsimp only; omega)) (.inl ⟨rfl, rfl⟩)
    rw [← e1] at e2
    exact e2
  · rename_i o1 c p1 p2 p3 p4 o2 g q1 q2 q3 q4 hne k k0 k1 z z0 z1 hz hz2 hz3 y y0 y1 x hx
    have hx : g[k.toNat]? = some x := hx
    have e1 : (g.map VxD.row).set k.toNat (splice x.row 1 [I (y - 1)]) = (g.set k.toNat ⟨x.r, y - 1, x.p, x.d⟩).map VxD.row := by rw [List.map_set]; rfl
    have hfx := q4 x (List.mem_of_getElem? hx)
    have e2 := h (o2 + 1 + 1 + 1) c (g.set k.toNat ⟨x.r, y - 1, x.p, x.d⟩) _ _ (by omega) (by omega) p3 (by simp; omega) (gfit_set q4 (by dsimp only; omega)) (.inl ⟨rfl, rfl⟩)
    rw [← e1] at e2
    exact e2
  · rename_i o1 c p1 p2 p3 p4 o2 g q1 q2 q3 q4 hne k k0 k1 z z0 z1 hz hz2 hz3 hz4 o3 l w1 w2 w3 x hx
    have hx : g[k.toNat]? = some x := hx
    have e1 : (g.map VxD.row).set k.toNat (splice x.row 2 [.ints l]) = (g.set k.toNat ⟨x.r, x.a, l, x.d⟩).map VxD.row := by rw [List.map_set]; rfl
    have hfx := q4 x (List.mem_of_getElem? hx)
    have e2 := h (o3) c (g.set k.toNat ⟨x.r, x.a, l, x.d⟩) _ _ (by omega) (by omega) p3 (by simp; omega) (gfit_set q4 (by dsimp only; omega)) (.inl ⟨rfl, rfl⟩)
    rw [← e1] at e2
    exact e2
  · rename_i o1 c p1 p2 p3 p4 o2 g q1 q2 q3 q4 hne k k0 k1 z z0 z1 hz hz2 hz3 hz4 hz5
    have hlen : (g.map VxD.row).length = g.length := by simp
    repeat' (first|((conv=>whnf); (first|refine draw_plan (id := 16) [] [] (.take 1 (.take 2 (.take 3 (.take 5 (.take 6 (.take 7 (.take 8 (.run 0 (.run 4 (.run 9 (.take 10 .done))))))))))) (by kernel_rfl) (by kernel_rfl) ?_|refine brK_dec (fun _=>?_) (fun _=>?_)|refine brK_ndec (fun _=>?_) (fun _=>?_)|refine brK_not (fun _=>?_) (fun _=>?_)|refine brK_in (fun _=>?_) (fun _=>?_)|refine And.intro (by first|exact rfl|exact (by first|(simp; omega)|exact Nat.le_trans (Nat.mul_le_mul_right _ (show _ ≤ 1000 from by simp [chunks]; omega)) (by decide)|(simp [chunks]; omega))|exact ⟨_,rfl,rfl⟩|exact ⟨rfl,rfl,rfl⟩|exact of_decide_eq_true rfl|exact trivial|assumption|omega|(show (_ ≤ _ ∧ _ ≤ _); omega)|(simp; omega)|exact ⟨by first|omega|(simp; omega),_,rfl,rfl⟩) ?_|refine Quo.l (And.intro (by first|exact rfl|exact (by first|(simp; omega)|exact Nat.le_trans (Nat.mul_le_mul_right _ (show _ ≤ 1000 from by simp [chunks]; omega)) (by decide)|(simp [chunks]; omega))|assumption|omega|(simp; omega)) ?_)|refine Quo.r (And.intro (by omega) ?_)|refine Both.mk ?_ ?_|refine Exists.intro _ (And.intro rfl ?_)|refine opt_use (by assumption) ?_|refine vrow_use (by assumption) ?_|refine vrow_in (fun _ _=>?_)|refine fun _=>?_))|exact rfl)
    have e3 : ∀ R, R = (g.take k.toNat ++ g.drop (k + 1).toNat).map VxD.row → K (.tup [.ints c, .own 1]) [rdO b (o2 + 1 + 1), .arr 4 R] [] := fun R hR => by
      rw [hR]
      exact h (o2 + 1 + 1) c (g.take k.toNat ++ g.drop (k + 1).toNat) _ _ (by omega) (by omega) p3 (by simp; omega) (fun x hx => (List.mem_append.1 hx).elim (fun q => q4 x (List.mem_of_mem_take q)) fun q => q4 x (List.mem_of_mem_drop q)) (.inl ⟨rfl, rfl⟩)
    refine e3 _ ?_
    rw [List.map_append, List.map_take, List.map_drop]
    have hkl : k.toNat < g.length := by omega
    have f1 : List.take (min k.toNat g.length) (List.take k.toNat (g.map VxD.row)) = List.take k.toNat (g.map VxD.row) := List.take_of_length_le (by simp)
    have f2 : List.take (g.length - (k + 1).toNat) (List.drop (k + 1).toNat (g.map VxD.row)) = List.drop (k + 1).toNat (g.map VxD.row) := List.take_of_length_le (by simp)
    simp [chunks]
    rw [f1, f2]
  · rename_i o1 c p1 p2 p3 p4 o2 g q1 q2 q3 q4 hne k k0 k1 z z0 z1 hz hz2 hz3 hz4 hz5 hz6 x hx
    have hfx := q4 x (List.mem_of_getElem? hx)
    have e3 : ∀ R, R = (g ++ [x]).map VxD.row → K (.tup [.ints c, .own 1]) [rdO b (o2 + 1 + 1), .arr 4 R] [] := fun R hR => by
      rw [hR]
      exact h (o2 + 1 + 1) c (g ++ [x]) _ _ (by omega) (by omega) p3 (by simp; omega) (gfit_app q4 hfx) (.inl ⟨rfl, rfl⟩)
    refine e3 _ ?_
    rw [List.take_length, List.map_append]
    rfl
  · rename_i o1 c p1 p2 p3 p4 o2 g q1 q2 q3 q4 hne k k0 k1 z z0 z1 hz hz2 hz3 hz4 hz5 hz6 hz7 o3 c2 r w1 w2 w3 hr hx
    rcases hr with rfl | rfl
    · repeat' (first|((conv=>whnf); (first|refine brK_dec (fun _=>?_) (fun _=>?_)|refine brK_ndec (fun _=>?_) (fun _=>?_)|refine brK_not (fun _=>?_) (fun _=>?_)|refine brK_in (fun _=>?_) (fun _=>?_)|refine And.intro (by first|exact rfl|exact ⟨_,rfl,rfl⟩|exact ⟨rfl,rfl,rfl⟩|exact of_decide_eq_true rfl|exact trivial|assumption|omega|(show (_ ≤ _ ∧ _ ≤ _); omega)|(simp; omega)|exact ⟨by first|omega|(simp; omega),_,rfl,rfl⟩) ?_|refine Quo.l (And.intro (by first|exact rfl|assumption|omega|(simp; omega)) ?_)|refine Quo.r (And.intro (by omega) ?_)|refine Both.mk ?_ ?_|refine Exists.intro _ (And.intro rfl ?_)|refine opt_use (by assumption) ?_|refine vrow_use (by assumption) ?_|refine vrow_in (fun _ _=>?_)|refine fun _=>?_))|exact rfl)
      exact h o3 c2 g _ _ (by omega) (by omega) w3 (by omega) q4 (.inr (.inl ⟨rfl, rfl⟩))
    · repeat' (first|((conv=>whnf); (first|refine brK_dec (fun _=>?_) (fun _=>?_)|refine brK_ndec (fun _=>?_) (fun _=>?_)|refine brK_not (fun _=>?_) (fun _=>?_)|refine brK_in (fun _=>?_) (fun _=>?_)|refine And.intro (by first|exact rfl|exact ⟨_,rfl,rfl⟩|exact ⟨rfl,rfl,rfl⟩|exact of_decide_eq_true rfl|exact trivial|assumption|omega|(show (_ ≤ _ ∧ _ ≤ _); omega)|(simp; omega)|exact ⟨by first|omega|(simp; omega),_,rfl,rfl⟩) ?_|refine Quo.l (And.intro (by first|exact rfl|assumption|omega|(simp; omega)) ?_)|refine Quo.r (And.intro (by omega) ?_)|refine Both.mk ?_ ?_|refine Exists.intro _ (And.intro rfl ?_)|refine opt_use (by assumption) ?_|refine vrow_use (by assumption) ?_|refine vrow_in (fun _ _=>?_)|refine fun _=>?_))|exact rfl)
      exact h o3 [] g _ _ (by omega) (by omega) (by simp) (by omega) q4 (.inr (.inr ⟨rfl, rfl, _, rfl⟩))
  · rename_i o1 c p1 p2 p3 p4 o2 g q1 q2 q3 q4 hne k k0 k1 z z0 z1 hz hz2 hz3 hz4 hz5 hz6 hz7
    exact h (o2 + 1 + 1) c g _ _ (by omega) (by omega) p3 (by omega) q4 (.inl ⟨rfl, rfl⟩)
def c_spec_l92Leaders : Con := ⟨1, 1, false, fun xs hs _ K => match xs, hs with
  | [.ptr 0 0, .ints c, .val (.int .i64 n)], [.cells [.bytes b, .val (.int .i64 off)]] => b.length ≤ 2000 ∧ 0 ≤ off ∧ off ≤ 500000 ∧ c.length ≤ 20 ∧ 0 ≤ n ∧ n ≤ 8 ∧ ∀ off' l, off ≤ off' → off' ≤ off + 100 → l.length ≤ 30 → K (.own 1) [rdO b off', .iarr l] []
  | _, _ => False⟩
end Go.Proofs.Ytalbgcpfekmfoaa
