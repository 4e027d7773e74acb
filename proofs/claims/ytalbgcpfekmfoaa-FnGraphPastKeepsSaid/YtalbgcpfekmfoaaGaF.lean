/-
A drawn vertex.
No conditions.
-/
import Derived.Test.YtalbgcpfekmfoaaGaD
namespace Go.Proofs.Ytalbgcpfekmfoaa
open Go Go.Vc
set_option maxHeartbeats 4000000
set_option maxRecDepth 10000
def c_spec_l91Vertex : Con := ⟨1, 1, true, fun xs hs _ K => match xs, hs with
  | [.ptr 0 0, .ints c, .sl 4 rows], [.cells [.bytes b, .val (.int .i64 off)]] => b.length ≤ 2000 ∧ 0 ≤ off ∧ off ≤ 200000 ∧ ∃ g : List VxD, rows = g.map VxD.row ∧ gV c g = true ∧ gfit g ∧
    ∀ off' r a p d, off ≤ off' → off' ≤ off + 200 → p.length < 2000 → K (.agg [I r, I a, .own 1, I d]) [rdO b off', .iarr p] []
  | _, _ => False⟩
theorem k_spec_l91Vertex : Keeps' Try.prog 40 c_spec_l91Vertex := by
  refine keeps_of_cuts mix TyT_ok (cok_cons k_spec_l6Rd_pick Try.func37 rfl rfl (cok_cons k_spec_l11Height Try.func72 rfl rfl (cok_cons k_spec_l91Digest Try.func39 rfl rfl (cok_cons k_spec_l11Authors Try.func73 rfl rfl (cok_cons k_spec_l91Members Try.func67 rfl rfl (cok_cons k_spec_l11One Try.func74 rfl rfl cok_nil)))))) Try.func40 rfl rfl rfl [4, 7] ?_
  intro aargs hs Fs K h
  simp only [c_spec_l91Vertex] at h
  split at h
  case h_2 => exact h.elim
  rename_i c rows b off
  obtain ⟨hb, h0, h1, g, rfl, hv, hfit, h⟩ := h
  have hlen : (g.map VxD.row).length = g.length := by simp
  have hgl := gV_len hv
  obtain ⟨hc1, hc2, hcx⟩ := com_out (gV_comV hv)
  refine cuts_step (by rfl) (fun q : Int × Int => mkS 75 [(0, .ptr 0 0), (1, .ints c), (2, .sl 4 (g.map VxD.row)), (6, .ptr 1 0), (7, I q.1)] [rdO b q.2, .cells [I 0, I 0, .val (.slice none 0 0), I 0]] Fs) (fun q => 0 ≤ q.1 ∧ q.1 ≤ 40 ∧ off ≤ q.2 ∧ q.2 ≤ off + 5) ?_ ?_
  · repeat' (first|((conv=>whnf); (first|refine brK_dec (fun _=>?_) (fun _=>?_)|refine brK_ndec (fun _=>?_) (fun _=>?_)|refine brK_not (fun _=>?_) (fun _=>?_)|refine brK_in (fun _=>?_) (fun _=>?_)|refine And.intro (by first|exact rfl|exact ⟨_,rfl,rfl⟩|exact ⟨rfl,rfl,rfl⟩|exact of_decide_eq_true rfl|exact trivial|assumption|omega|(show (_ ≤ _ ∧ _ ≤ _); omega)|(simp; omega)|exact ⟨by first|omega|(simp; omega),_,rfl,rfl⟩) ?_|refine Quo.l (And.intro (by first|exact rfl|assumption|omega|(simp; omega)) ?_)|refine Quo.r (And.intro (by omega) ?_)|refine Both.mk ?_ ?_|refine Exists.intro _ (And.intro rfl ?_)|refine opt_use (by assumption) ?_|refine vrow_use (by assumption) ?_|refine vrow_in (fun _ _=>?_)|refine fun _=>?_))|exact rfl)
    · rename_i n1 a1 a2 p2 b1 b2 pos hgt hg1 hg2 m e1 e2 e3 q2 q3 q4
      refine ⟨(m + q2, off + 1 + 1 + 1), [0, 1], ⟨by dsimp only; omega, by dsimp only; omega, by dsimp only; omega, by dsimp only; omega⟩, ?_⟩
      repeat' (first|((conv=>whnf); (first|refine brK_dec (fun _=>?_) (fun _=>?_)|refine brK_ndec (fun _=>?_) (fun _=>?_)|refine brK_not (fun _=>?_) (fun _=>?_)|refine brK_in (fun _=>?_) (fun _=>?_)|refine And.intro (by first|exact rfl|exact ⟨_,rfl,rfl⟩|exact ⟨rfl,rfl,rfl⟩|exact of_decide_eq_true rfl|exact trivial|assumption|omega|(show (_ ≤ _ ∧ _ ≤ _); omega)|(simp; omega)|exact ⟨by first|omega|(simp; omega),_,rfl,rfl⟩) ?_|refine Quo.l (And.intro (by first|exact rfl|assumption|omega|(simp; omega)) ?_)|refine Quo.r (And.intro (by omega) ?_)|refine Both.mk ?_ ?_|refine Exists.intro _ (And.intro rfl ?_)|refine opt_use (by assumption) ?_|refine vrow_use (by assumption) ?_|refine vrow_in (fun _ _=>?_)|refine fun _=>?_))|exact rfl)
    · rename_i n1 a1 a2 p2 b1 b2 pos
      refine ⟨(n1, off + 1 + 1), [0, 1], ⟨by dsimp only; omega, by dsimp only; omega, by dsimp only; omega, by dsimp only; omega⟩, ?_⟩
      repeat' (first|((conv=>whnf); (first|refine brK_dec (fun _=>?_) (fun _=>?_)|refine brK_ndec (fun _=>?_) (fun _=>?_)|refine brK_not (fun _=>?_) (fun _=>?_)|refine brK_in (fun _=>?_) (fun _=>?_)|refine And.intro (by first|exact rfl|exact ⟨_,rfl,rfl⟩|exact ⟨rfl,rfl,rfl⟩|exact of_decide_eq_true rfl|exact trivial|assumption|omega|(show (_ ≤ _ ∧ _ ≤ _); omega)|(simp; omega)|exact ⟨by first|omega|(simp; omega),_,rfl,rfl⟩) ?_|refine Quo.l (And.intro (by first|exact rfl|assumption|omega|(simp; omega)) ?_)|refine Quo.r (And.intro (by omega) ?_)|refine Both.mk ?_ ?_|refine Exists.intro _ (And.intro rfl ?_)|refine opt_use (by assumption) ?_|refine vrow_use (by assumption) ?_|refine vrow_in (fun _ _=>?_)|refine fun _=>?_))|exact rfl)
  rintro ⟨n, o⟩ ⟨w1, w2, w3, w4⟩
  dsimp only at w1 w2 w3 w4 ⊢
  refine cuts_step (by rfl) (fun q : Int × Int × List Int × Int × Int => mkS 75 [(0, .ptr 0 0), (1, .ints c), (2, .sl 4 (g.map VxD.row)), (6, .ptr 1 0), (8, .ptr 2 0)] [rdO b q.1, .cells [I 0, I 0, .val (.slice none 0 0), I 0], .cells [I n, I q.2.1, .own 3, I q.2.2.2.1], .iarr q.2.2.1] Fs) (fun q => o ≤ q.1 ∧ q.1 ≤ o + 50 ∧ q.2.2.1.length < 2000) ?_ ?_
  · repeat' (first|((conv=>whnf); (first|refine brK_dec (fun _=>?_) (fun _=>?_)|refine brK_ndec (fun _=>?_) (fun _=>?_)|refine brK_not (fun _=>?_) (fun _=>?_)|refine brK_in (fun _=>?_) (fun _=>?_)|refine And.intro (by first|exact rfl|exact ⟨_,rfl,rfl⟩|exact ⟨rfl,rfl,rfl⟩|exact of_decide_eq_true rfl|exact trivial|assumption|omega|(show (_ ≤ _ ∧ _ ≤ _); omega)|(simp; omega)|exact ⟨by first|omega|(simp; omega),_,rfl,rfl⟩) ?_|refine Quo.l (And.intro (by first|exact rfl|assumption|omega|(simp; omega)) ?_)|refine Quo.r (And.intro (by omega) ?_)|refine Both.mk ?_ ?_|refine Exists.intro _ (And.intro rfl ?_)|refine opt_use (by assumption) ?_|refine vrow_use (by assumption) ?_|refine vrow_in (fun _ _=>?_)|refine fun _=>?_))|exact rfl)
    · rename_i m e1 e2 e3 a a1 a2 o1 d o2 o3 d1 d2 pos l hl1 hl2
      refine ⟨(o1, a, l, d, 0), [0, 1, 3, 4], ⟨by dsimp only; omega, by dsimp only; omega, by dsimp only; omega⟩, ?_⟩
      repeat' (first|((conv=>whnf); (first|refine brK_dec (fun _=>?_) (fun _=>?_)|refine brK_ndec (fun _=>?_) (fun _=>?_)|refine brK_not (fun _=>?_) (fun _=>?_)|refine brK_in (fun _=>?_) (fun _=>?_)|refine And.intro (by first|exact rfl|exact ⟨_,rfl,rfl⟩|exact ⟨rfl,rfl,rfl⟩|exact of_decide_eq_true rfl|exact trivial|assumption|omega|(show (_ ≤ _ ∧ _ ≤ _); omega)|(simp; omega)|exact ⟨by first|omega|(simp; omega),_,rfl,rfl⟩) ?_|refine Quo.l (And.intro (by first|exact rfl|assumption|omega|(simp; omega)) ?_)|refine Quo.r (And.intro (by omega) ?_)|refine Both.mk ?_ ?_|refine Exists.intro _ (And.intro rfl ?_)|refine opt_use (by assumption) ?_|refine vrow_use (by assumption) ?_|refine vrow_in (fun _ _=>?_)|refine fun _=>?_))|exact rfl)
    · rename_i m e1 e2 e3 a a1 a2 o1 d o2 o3 d1 d2 pos
      refine ⟨(o1, a, [], d, 0), [0, 1, 3, 2], ⟨by dsimp only; omega, by dsimp only; omega, by simp⟩, ?_⟩
      repeat' (first|((conv=>whnf); (first|refine brK_dec (fun _=>?_) (fun _=>?_)|refine brK_ndec (fun _=>?_) (fun _=>?_)|refine brK_not (fun _=>?_) (fun _=>?_)|refine brK_in (fun _=>?_) (fun _=>?_)|refine And.intro (by first|exact rfl|exact ⟨_,rfl,rfl⟩|exact ⟨rfl,rfl,rfl⟩|exact of_decide_eq_true rfl|exact trivial|assumption|omega|(show (_ ≤ _ ∧ _ ≤ _); omega)|(simp; omega)|exact ⟨by first|omega|(simp; omega),_,rfl,rfl⟩) ?_|refine Quo.l (And.intro (by first|exact rfl|assumption|omega|(simp; omega)) ?_)|refine Quo.r (And.intro (by omega) ?_)|refine Both.mk ?_ ?_|refine Exists.intro _ (And.intro rfl ?_)|refine opt_use (by assumption) ?_|refine vrow_use (by assumption) ?_|refine vrow_in (fun _ _=>?_)|refine fun _=>?_))|exact rfl)
  rintro ⟨o2, a, p, d, _⟩ ⟨v1, v2, v3⟩
  dsimp only at v1 v2 v3 ⊢
  have hps : ∀ {i : Nat} {x : VxD}, g[i]? = some x → x.p.length < 2000 := fun hx => Nat.lt_of_le_of_lt (hfit _ (List.mem_of_getElem? hx)) (by decide)
  repeat' (first|((conv=>whnf); (first|refine brK_dec (fun _=>?_) (fun _=>?_)|refine brK_ndec (fun _=>?_) (fun _=>?_)|refine brK_not (fun _=>?_) (fun _=>?_)|refine brK_in (fun _=>?_) (fun _=>?_)|refine And.intro (by first|exact rfl|exact ⟨_,rfl,rfl⟩|exact ⟨rfl,rfl,rfl⟩|exact of_decide_eq_true rfl|exact trivial|assumption|omega|(show (_ ≤ _ ∧ _ ≤ _); omega)|(simp; omega)|exact ⟨by first|omega|(simp; omega),_,rfl,rfl⟩) ?_|refine Quo.l (And.intro (by first|exact rfl|assumption|omega|(simp; omega)) ?_)|refine Quo.r (And.intro (by omega) ?_)|refine Both.mk ?_ ?_|refine Exists.intro _ (And.intro rfl ?_)|refine opt_use (by assumption) ?_|refine vrow_use (by assumption) ?_|refine vrow_in (fun _ _=>?_)|refine fun _=>?_))|exact rfl)
  all_goals first
    | exact h _ _ _ _ _ (by omega) (by omega) (by omega)
    | (rename_i hx
       have hx := hps hx
       refine And.intro (by omega) ?_
       repeat' (first|((conv=>whnf); (first|refine brK_dec (fun _=>?_) (fun _=>?_)|refine brK_ndec (fun _=>?_) (fun _=>?_)|refine brK_not (fun _=>?_) (fun _=>?_)|refine brK_in (fun _=>?_) (fun _=>?_)|refine And.intro (by first|exact rfl|exact ⟨_,rfl,rfl⟩|exact ⟨rfl,rfl,rfl⟩|exact of_decide_eq_true rfl|exact trivial|assumption|omega|(show (_ ≤ _ ∧ _ ≤ _); omega)|(simp; omega)|exact ⟨by first|omega|(simp; omega),_,rfl,rfl⟩) ?_|refine Quo.l (And.intro (by first|exact rfl|assumption|omega|(simp; omega)) ?_)|refine Quo.r (And.intro (by omega) ?_)|refine Both.mk ?_ ?_|refine Exists.intro _ (And.intro rfl ?_)|refine opt_use (by assumption) ?_|refine vrow_use (by assumption) ?_|refine vrow_in (fun _ _=>?_)|refine fun _=>?_))|exact rfl)
       exact h _ _ _ _ _ (by omega) (by omega) (by omega))
end Go.Proofs.Ytalbgcpfekmfoaa
