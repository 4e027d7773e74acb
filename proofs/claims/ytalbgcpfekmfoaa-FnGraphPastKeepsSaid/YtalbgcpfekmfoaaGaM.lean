/-
A vertex added by the program; its linked graph is left behind.
No conditions.
-/
import Derived.Test.YtalbgcpfekmfoaaGaL
import Derived.Test.YtalbgcpfekmfoaaGkG
namespace Go.Proofs.Ytalbgcpfekmfoaa
open Go Go.Vc
set_option maxHeartbeats 4000000
set_option maxRecDepth 10000
/-- A list of numbers in read-only memory does not lean on families. -/
theorem ints_fams {E : Entry} {H : Nat → AO} {w : World} {ρ : Nat → Nat} {A A' : FA} {l : List Int} {v : Value} (h : RepV (ctxOf E H w ρ A) (.ints l) v) : RepV (ctxOf E H w ρ A') (.ints l) v := by
  cases h with
  | ints _ _ h =>
    refine .ints _ _ ?_
    have hz : ∀ (i : Nat) e (j : Nat) a, (icells l)[i]? = some e → e[j]? = some a → ∃ n, a = I n := by
      intro i e j a hi hj
      obtain ⟨x, _, rfl⟩ := icells_get.1 hi
      cases j with
      | zero => simp at hj; exact ⟨x, hj.symm⟩
      | succ j => simp at hj
    revert h hz
    generalize icells l = cs
    intro h hz
    cases h with
    | sl0 sz a cap => exact .sl0 _ _ _
    | sl _ _ b off cap vf hok hcap hl hc hh =>
      refine .sl 1 cs b off cap vf hok hcap hl hc (fun i e j a hi hj => ?_)
      obtain ⟨n, rfl⟩ := hz i e j a hi hj
      have := hh i e j _ hi hj
      revert this
      generalize vf i j = u
      intro h
      cases h
      exact .val _
/-- What a function leaves behind without families: a graph and a code. -/
def flatG (r : AV) (hs : List AO) : Prop := ∃ (z : Int) (g : List VxD), r = .tup [.own 0, I z] ∧ hs = [.arr 4 (g.map VxD.row)]
theorem drop_graph {P : Program} {f : FuncId} {con con' : Con} (h : Keeps' P f con') (hn : con'.nnew ≤ con.nnew) (hm : con'.mode = con.mode) (ha : con.alias = true) (hC : ∀ xs hs Fs K, con.C xs hs Fs K → hs = [] ∧ con'.C xs hs Fs fun r hs _ => flatG r hs ∧ K r hs []) : Keeps' P f con := by
  intro E args aargs hs Fs K hc hl hn0 hsat hrep hfx
  obtain ⟨rfl, hc⟩ := hC _ _ _ _ hc
  have hz : E.n0 = 0 := hn0
  refine (h E args aargs [] Fs _ hc hl hn0 hsat hrep (by rw [hm]; exact hfx)).mono ?_
  rintro e w' ⟨v, r, hs, nF, ρ, A, rfl, ⟨⟨z, g, rfl, rfl⟩, hK⟩, hs', hr, h1, h2, _⟩
  have kp : Vc.Keeps (ctxOf E (listH []) E.w0 E.ρ0 E.A0) (ctxOf E (listH [.arr 4 (g.map VxD.row)]) w' ρ ⟨A.at_, E.A0.n⟩) := by
    refine ⟨fun b hb => ?_, fun b hb => ?_, fun b hb => hb, fun b hb => ?_, ⟨Nat.le_refl _, fun f hf => hs'.A0 f hf⟩⟩
    · rcases hb with hb | ⟨q1, q2, _⟩
      · exact .inl hb
      · exact absurd q2 (by omega)
    · rcases hb with hb | ⟨q1, q2, _⟩
      · exact hs'.frame b (hsat.okB b hb).1 fun i hi => by omega
      · exact absurd q2 (by omega)
    · exact hs'.frame b (hsat.zB b hb).1 fun i hi => by omega
  have hobj : ∀ k, RepO (ctxOf E (listH [.arr 4 (g.map VxD.row)]) w' ρ ⟨A.at_, E.A0.n⟩) k (listH [.arr 4 (g.map VxD.row)] k) := by
    intro k
    cases k with
    | succ k => trivial
    | zero =>
      obtain ⟨vs, T, q1, q2, q3, q5, q4⟩ := hs'.obj 0
      refine ⟨vs, T, q1, q2, q3, q5, fun i e j a v hi hj hv0 => ?_⟩
      obtain ⟨p1, p2⟩ := q4 i e j a v hi hj hv0
      refine ⟨?_, p2⟩
      obtain ⟨u, _, rfl⟩ := List.mem_map.1 (List.mem_of_getElem? hi)
      have hm := List.mem_of_getElem? hj
      simp [VxD.row] at hm
      rcases hm with rfl | rfl | rfl | rfl
      · cases p1
        exact .val _
      · cases p1
        exact .val _
      · exact ints_fams p1
      · cases p1
        exact .val _
  have hfam : ∀ (f : Nat) fam, Fs[f]? = some fam → RepFam (ctxOf E (listH [.arr 4 (g.map VxD.row)]) w' ρ ⟨A.at_, E.A0.n⟩) f fam := fun f fam hf =>
    RepFam.move kp (by rw [← hsat.fl]; exact (List.getElem?_eq_some_iff.1 hf).1) (hsat.fam f fam hf)
  refine ⟨v, _, _, [], ρ, ⟨A.at_, E.A0.n⟩, rfl, hK, ?_, ?_, h1, by omega, fun h => absurd (h.symm.trans ha) (by simp)⟩
  · rw [List.append_nil]
    exact { hs' with fl := hsat.fl, nf := Nat.le_refl _, A0 := hs'.A0, fam := hfam, obj := hobj }
  · cases hr with
    | tup cs vs hl hn h =>
      refine .tup _ vs hl hn fun i a u ha hu => ?_
      have hi := h i a u ha hu
      match i, ha with
      | 0, ha =>
        cases ha
        cases hi with
        | own _ sz n cap hinf hcap hr => exact .own _ sz n cap hinf hcap hr
      | 1, ha =>
        cases ha
        cases hi
        exact .val _
      | i + 2, ha => simp at ha
noncomputable def c_n_GraphAdd : Con := ⟨1, 0, true, fun xs hs _ K => match xs with
  | [.ints c, .sl 4 rows, .agg [.val (.int .i64 r), .val (.int .i64 a), .ints p, .val (.int .i64 d)]] => hs = [] ∧ ∃ g : List VxD, rows = g.map VxD.row ∧ c.length < 2000000 ∧ g.length < 1000000 ∧ (∀ v ∈ g, v.p.length < 2000000) ∧ p.length < 2000000 ∧
      ∀ nF : List Fam, K (.tup [.own 0, I (addI c g ⟨r, a, p, d⟩).2]) [.arr 4 ((addI c g ⟨r, a, p, d⟩).1.map VxD.row)] nF
  | _ => False⟩
theorem k_impl_GraphAdd_n : Keeps' Try.prog 14 c_n_GraphAdd := by
  refine keeps_of_vc mix TyT_ok (cok_cons k_impl_linkGraph Try.func41 rfl rfl (cok_cons k_impl_VertexValid Try.func42 rfl rfl (cok_cons k_impl_cloneVertices Try.func43 rfl rfl (cok_cons k_impl_graph_at Try.func44 rfl rfl (cok_cons k_impl_sameVertex Try.func45 rfl rfl (cok_cons k_impl_precedes Try.func46 rfl rfl (cok_cons k_impl_cloneVertex Try.func48 rfl rfl (cok_cons k_slices_Insert_Vertex_n Try.func47 rfl rfl cok_nil)))))))) Try.func14 rfl rfl rfl ?_
  intro aargs hs Fs K h
  simp only [c_n_GraphAdd] at h
  split at h
  case h_2 => exact h.elim
  rename_i c rows r a p d
  obtain ⟨rfl, g, rfl, hcl, hg, hp, hp2, h⟩ := h
  repeat' (first|((conv=>whnf); (first|refine draw_plan (id := 7) [] [5] (.take 0 (.take 1 (.take 2 (.take 3 (.take 4 (.run 5 .done)))))) (by kernel_rfl) (by kernel_rfl) ?_|refine draw_plan (id := 17) [] [] (.take 0 (.take 1 (.take 2 (.take 3 (.take 4 (.take 5 (.take 6 (.take 7 (.take 8 (.take 9 (.run 10 (.take 11 .done)))))))))))) (by kernel_rfl) (by kernel_rfl) ?_|refine appK_nil ?_|refine brK_dec (fun _=>?_) (fun _=>?_)|refine brK_ndec (fun _=>?_) (fun _=>?_)|refine brK_not (fun _=>?_) (fun _=>?_)|refine brK_in (fun _=>?_) (fun _=>?_)|refine And.intro (by first|exact rfl|exact ⟨_,rfl,rfl⟩|exact ⟨rfl,rfl,rfl⟩|exact of_decide_eq_true rfl|exact trivial|assumption|omega|(show (_ ≤ _ ∧ _ ≤ _); omega)|(simp; omega)|exact ⟨by first|omega|(simp; omega),_,rfl,rfl⟩) ?_|refine Quo.l (And.intro (by first|exact rfl|assumption|omega|(simp; omega)) ?_)|refine Quo.r (And.intro (by omega) ?_)|refine Both.mk ?_ ?_|refine Exists.intro _ (And.intro rfl ?_)|refine opt_use (by assumption) ?_|refine vrow_use (by assumption) ?_|refine vrow_in (fun _ _=>?_)|refine fun _=>?_))|exact rfl)
  · rename_i e nF
    have e2 : addI c g ⟨r, a, p, d⟩ = ([], 4) := by
      rw [addI, e]
      rfl
    rw [e2] at h
    exact h nF
  · rename_i e b nF hG hx
    have e2 : addI c g ⟨r, a, p, d⟩ = ([], 4) := by
      rw [gV_com2 e, Bool.true_and] at hx
      rw [addI, hx, Bool.and_false]
      rfl
    rw [e2] at h
    exact h nF
  rename_i e b nF hG hx
  have hG : hasG ((Fs ++ []) ++ nF) b g := hG
  rw [List.append_nil] at hG
  rw [gV_com2 e, Bool.true_and] at hx
  have e2 : addI c g ⟨r, a, p, d⟩ = addV g ⟨r, a, p, d⟩ := by
    rw [addI, e, hx]
    rfl
  rw [e2] at h
  have hr : 0 ≤ r ∧ r ≤ 30 := (vx_out hx).1
  refine ⟨gV_com2 e, b, g, rfl, gV_gin e, ?_⟩
  repeat' (first|((conv=>whnf); (first|refine draw_plan (id := 7) [] [5] (.take 0 (.take 1 (.take 2 (.take 3 (.take 4 (.run 5 .done)))))) (by kernel_rfl) (by kernel_rfl) ?_|refine draw_plan (id := 17) [] [] (.take 0 (.take 1 (.take 2 (.take 3 (.take 4 (.take 5 (.take 6 (.take 7 (.take 8 (.take 9 (.run 10 (.take 11 .done)))))))))))) (by kernel_rfl) (by kernel_rfl) ?_|refine appK_nil ?_|refine brK_dec (fun _=>?_) (fun _=>?_)|refine brK_ndec (fun _=>?_) (fun _=>?_)|refine brK_not (fun _=>?_) (fun _=>?_)|refine brK_in (fun _=>?_) (fun _=>?_)|refine And.intro (by first|exact rfl|exact ⟨_,rfl,rfl⟩|exact ⟨rfl,rfl,rfl⟩|exact of_decide_eq_true rfl|exact trivial|assumption|omega|(show (_ ≤ _ ∧ _ ≤ _); omega)|(simp; omega)|exact ⟨by first|omega|(simp; omega),_,rfl,rfl⟩) ?_|refine Quo.l (And.intro (by first|exact rfl|assumption|omega|(simp; omega)) ?_)|refine Quo.r (And.intro (by omega) ?_)|refine Both.mk ?_ ?_|refine Exists.intro _ (And.intro rfl ?_)|refine opt_use (by assumption) ?_|refine vrow_use (by assumption) ?_|refine vrow_in (fun _ _=>?_)|refine fun _=>?_))|exact rfl)
  · rename_i hf
    have e3 : addV g ⟨r, a, p, d⟩ = if parB g ⟨r, a, p, d⟩ = true then (insV g (plcV g ⟨r, a, p, d⟩) ⟨r, a, p, d⟩, 0) else (g, 3) := by
      unfold addV
      rw [hf]
    rw [e3] at h
    refine loop_in (ι := Nat) (fun i => ⟨mkE 0 84 [(0, .ints c), (1, .sl 4 (g.map VxD.row)), (5, .ptr 0 0), (6, .val (.slice none 0 0)), (7, I 0), (8, .ro (gcells c b g)), (10, .own 1), (49, .ints p), (50, I p.length), (51, I i)], [.cells [I r, I a, .ints p, I d], .arr 4 (g.map VxD.row)], Fs, nF⟩) (fun i => i ≤ p.length ∧ ∀ (k : Nat) x, k < i → p[k]? = some x → (findV g (r - 1) x).isSome = true) (fun i => p.length - i) 0 [0, 1] ⟨Nat.zero_le _, fun k x hk => absurd hk (by omega)⟩ ?_ ?_
    · repeat' (first|((conv=>whnf); (first|refine appK_nil ?_|refine brK_dec (fun _=>?_) (fun _=>?_)|refine brK_ndec (fun _=>?_) (fun _=>?_)|refine brK_not (fun _=>?_) (fun _=>?_)|refine brK_in (fun _=>?_) (fun _=>?_)|refine And.intro (by first|exact rfl|exact ⟨_,rfl,rfl⟩|exact ⟨rfl,rfl,rfl⟩|exact of_decide_eq_true rfl|exact trivial|assumption|omega|(show (_ ≤ _ ∧ _ ≤ _); omega)|(simp; omega)|exact ⟨by first|omega|(simp; omega),_,rfl,rfl⟩) ?_|refine Quo.l (And.intro (by first|exact rfl|assumption|omega|(simp; omega)) ?_)|refine Quo.r (And.intro (by omega) ?_)|refine Both.mk ?_ ?_|refine Exists.intro _ (And.intro rfl ?_)|refine opt_use (by assumption) ?_|refine vrow_use (by assumption) ?_|refine vrow_in (fun _ _=>?_)|refine fun _=>?_))|exact rfl)
    intro i ⟨hi, hall⟩
    repeat' (first|((conv=>whnf); (first|refine draw_plan (id := 7) [] [5] (.take 0 (.take 1 (.take 2 (.take 3 (.take 4 (.run 5 .done)))))) (by kernel_rfl) (by kernel_rfl) ?_|refine draw_plan (id := 17) [] [] (.take 0 (.take 1 (.take 2 (.take 3 (.take 4 (.take 5 (.take 6 (.take 7 (.take 8 (.take 9 (.run 10 (.take 11 .done)))))))))))) (by kernel_rfl) (by kernel_rfl) ?_|refine Exists.intro b (Exists.intro g (And.intro rfl (And.intro (gV_gin e) ?_)))|refine And.intro (gV_com2 e) ?_|refine appK_nil ?_|refine brK_dec (fun _=>?_) (fun _=>?_)|refine brK_ndec (fun _=>?_) (fun _=>?_)|refine brK_not (fun _=>?_) (fun _=>?_)|refine brK_in (fun _=>?_) (fun _=>?_)|refine And.intro (by first|exact rfl|exact ⟨_,rfl,rfl⟩|exact ⟨rfl,rfl,rfl⟩|exact of_decide_eq_true rfl|exact trivial|assumption|omega|(show (_ ≤ _ ∧ _ ≤ _); omega)|(simp; omega)|exact ⟨by first|omega|(simp; omega),_,rfl,rfl⟩) ?_|refine Quo.l (And.intro (by first|exact rfl|assumption|omega|(simp; omega)) ?_)|refine Quo.r (And.intro (by omega) ?_)|refine Both.mk ?_ ?_|refine Exists.intro _ (And.intro rfl ?_)|refine opt_use (by assumption) ?_|refine vrow_use (by assumption) ?_|refine vrow_in (fun _ _=>?_)|refine fun _=>?_))|exact rfl)
    · rename_i hil x hx hn
      have hx : p[i]? = some x := hx
      rw [if_neg (by rw [par_no (v := ⟨r, a, p, d⟩) hx hn]; simp)] at h
      exact h nF
    · rename_i hil x hx j hj
      have hx : p[i]? = some x := hx
      refine ⟨i + 1, [0, 1], ⟨by omega, fun k y hk hy => ?_⟩, by omega, ?_⟩
      · rcases Nat.lt_or_ge k i with h1 | h1
        · exact hall k y h1 hy
        · obtain rfl : k = i := by omega
          rw [hx] at hy
          cases hy
          rw [hj]
          rfl
      repeat' (first|((conv=>whnf); (first|refine Exists.intro b (Exists.intro g (And.intro rfl (And.intro (gV_gin e) ?_)))|refine And.intro (gV_com2 e) ?_|refine appK_nil ?_|refine brK_dec (fun _=>?_) (fun _=>?_)|refine brK_ndec (fun _=>?_) (fun _=>?_)|refine brK_not (fun _=>?_) (fun _=>?_)|refine brK_in (fun _=>?_) (fun _=>?_)|refine And.intro (by first|exact rfl|exact ⟨_,rfl,rfl⟩|exact ⟨rfl,rfl,rfl⟩|exact of_decide_eq_true rfl|exact trivial|assumption|omega|(show (_ ≤ _ ∧ _ ≤ _); omega)|(simp; omega)|exact ⟨by first|omega|(simp; omega),_,rfl,rfl⟩) ?_|refine Quo.l (And.intro (by first|exact rfl|assumption|omega|(simp; omega)) ?_)|refine Quo.r (And.intro (by omega) ?_)|refine Both.mk ?_ ?_|refine Exists.intro _ (And.intro rfl ?_)|refine opt_use (by assumption) ?_|refine vrow_use (by assumption) ?_|refine vrow_in (fun _ _=>?_)|refine fun _=>?_))|exact rfl)
    · rename_i hil
      have hpar : parB g ⟨r, a, p, d⟩ = true := par_yes (v := ⟨r, a, p, d⟩) fun k x hx => hall k x (by have := (List.getElem?_eq_some_iff.1 hx).1; show k < i; have : k < p.length := this; omega) hx
      rw [if_pos hpar] at h
      refine loop_in (ι := Nat) (fun q => ⟨mkE 0 84 [(5, .ptr 0 0), (6, .val (.slice none 0 0)), (7, I 0), (10, .own 1), (14, I q)], [.cells [I r, I a, .ints p, I d], .arr 4 (g.map VxD.row)], Fs, nF⟩) (fun q => q ≤ g.length ∧ ∀ (j : Nat) u, j < q → g[j]? = some u → ltB u ⟨r, a, p, d⟩ = true) (fun q => g.length - q) 0 [0, 1] ⟨Nat.zero_le _, fun j u hj => absurd hj (by omega)⟩ ?_ ?_
      · repeat' (first|((conv=>whnf); (first|refine Exists.intro b (Exists.intro g (And.intro rfl (And.intro (gV_gin e) ?_)))|refine And.intro (gV_com2 e) ?_|refine appK_nil ?_|refine brK_dec (fun _=>?_) (fun _=>?_)|refine brK_ndec (fun _=>?_) (fun _=>?_)|refine brK_not (fun _=>?_) (fun _=>?_)|refine brK_in (fun _=>?_) (fun _=>?_)|refine And.intro (by first|exact rfl|exact ⟨_,rfl,rfl⟩|exact ⟨rfl,rfl,rfl⟩|exact of_decide_eq_true rfl|exact trivial|assumption|omega|(show (_ ≤ _ ∧ _ ≤ _); omega)|(simp; omega)|exact ⟨by first|omega|(simp; omega),_,rfl,rfl⟩) ?_|refine Quo.l (And.intro (by first|exact rfl|assumption|omega|(simp; omega)) ?_)|refine Quo.r (And.intro (by omega) ?_)|refine Both.mk ?_ ?_|refine Exists.intro _ (And.intro rfl ?_)|refine opt_use (by assumption) ?_|refine vrow_use (by assumption) ?_|refine vrow_in (fun _ _=>?_)|refine fun _=>?_))|exact rfl)
      intro q ⟨hq, hall2⟩
      have hlen : (g.map VxD.row).length = g.length := by simp
      repeat' (first|((conv=>whnf); (first|refine draw_plan (id := 7) [] [5] (.take 0 (.take 1 (.take 2 (.take 3 (.take 4 (.run 5 .done)))))) (by kernel_rfl) (by kernel_rfl) ?_|refine draw_plan (id := 17) [] [] (.take 0 (.take 1 (.take 2 (.take 3 (.take 4 (.take 5 (.take 6 (.take 7 (.take 8 (.take 9 (.run 10 (.take 11 .done)))))))))))) (by kernel_rfl) (by kernel_rfl) ?_|refine appK_nil ?_|refine brK_dec (fun _=>?_) (fun _=>?_)|refine brK_ndec (fun _=>?_) (fun _=>?_)|refine brK_not (fun _=>?_) (fun _=>?_)|refine brK_in (fun _=>?_) (fun _=>?_)|refine And.intro (by first|exact rfl|exact ⟨_,rfl,rfl⟩|exact ⟨rfl,rfl,rfl⟩|exact of_decide_eq_true rfl|exact trivial|assumption|omega|(show (_ ≤ _ ∧ _ ≤ _); omega)|(simp; omega)|exact ⟨by first|omega|(simp; omega),_,rfl,rfl⟩) ?_|refine Quo.l (And.intro (by first|exact rfl|assumption|omega|(simp; omega)) ?_)|refine Quo.r (And.intro (by omega) ?_)|refine Both.mk ?_ ?_|refine Exists.intro _ (And.intro rfl ?_)|refine opt_use (by assumption) ?_|refine vrow_use (by assumption) ?_|refine vrow_in (fun _ _=>?_)|refine fun _=>?_))|exact rfl)
      · rename_i hql u hu hlt
        have hu : g[q]? = some u := hu
        refine ⟨q + 1, [0, 1], ⟨by omega, fun j w hj hw => ?_⟩, by omega, ?_⟩
        · rcases Nat.lt_or_ge j q with h1 | h1
          · exact hall2 j w h1 hw
          · obtain rfl : j = q := by omega
            rw [hu] at hw
            cases hw
            exact hlt
        repeat' (first|((conv=>whnf); (first|refine appK_nil ?_|refine brK_dec (fun _=>?_) (fun _=>?_)|refine brK_ndec (fun _=>?_) (fun _=>?_)|refine brK_not (fun _=>?_) (fun _=>?_)|refine brK_in (fun _=>?_) (fun _=>?_)|refine And.intro (by first|exact rfl|exact ⟨_,rfl,rfl⟩|exact ⟨rfl,rfl,rfl⟩|exact of_decide_eq_true rfl|exact trivial|assumption|omega|(show (_ ≤ _ ∧ _ ≤ _); omega)|(simp; omega)|exact ⟨by first|omega|(simp; omega),_,rfl,rfl⟩) ?_|refine Quo.l (And.intro (by first|exact rfl|assumption|omega|(simp; omega)) ?_)|refine Quo.r (And.intro (by omega) ?_)|refine Both.mk ?_ ?_|refine Exists.intro _ (And.intro rfl ?_)|refine opt_use (by assumption) ?_|refine vrow_use (by assumption) ?_|refine vrow_in (fun _ _=>?_)|refine fun _=>?_))|exact rfl)
      · rename_i hql u hu hlt
        have hu : g[q]? = some u := hu
        have e5 : plcV g ⟨r, a, p, d⟩ = q := plc_is hq hall2 fun u' hu' => by
          rw [hu] at hu'
          cases hu'
          exact hlt
        rw [e5] at h
        (conv => whnf)
        refine ⟨g, ⟨r, a, p, d⟩, q, rfl, rfl, hg, rfl, hq, ?_⟩
        repeat' (first|((conv=>whnf); (first|refine draw_plan (id := 7) [] [5] (.take 0 (.take 1 (.take 2 (.take 3 (.take 4 (.run 5 .done)))))) (by kernel_rfl) (by kernel_rfl) ?_|refine draw_plan (id := 17) [] [] (.take 0 (.take 1 (.take 2 (.take 3 (.take 4 (.take 5 (.take 6 (.take 7 (.take 8 (.take 9 (.run 10 (.take 11 .done)))))))))))) (by kernel_rfl) (by kernel_rfl) ?_|refine appK_nil ?_|refine brK_dec (fun _=>?_) (fun _=>?_)|refine brK_ndec (fun _=>?_) (fun _=>?_)|refine brK_not (fun _=>?_) (fun _=>?_)|refine brK_in (fun _=>?_) (fun _=>?_)|refine And.intro (by first|exact rfl|exact ⟨_,rfl,rfl⟩|exact ⟨rfl,rfl,rfl⟩|exact of_decide_eq_true rfl|exact trivial|assumption|omega|(show (_ ≤ _ ∧ _ ≤ _); omega)|(simp; omega)|exact ⟨by first|omega|(simp; omega),_,rfl,rfl⟩) ?_|refine Quo.l (And.intro (by first|exact rfl|assumption|omega|(simp; omega)) ?_)|refine Quo.r (And.intro (by omega) ?_)|refine Both.mk ?_ ?_|refine Exists.intro _ (And.intro rfl ?_)|refine opt_use (by assumption) ?_|refine vrow_use (by assumption) ?_|refine vrow_in (fun _ _=>?_)|refine fun _=>?_))|exact rfl)
        exact h nF
      · rename_i hql
        have e5 : plcV g ⟨r, a, p, d⟩ = q := plc_is hq hall2 fun u' hu' => by
          have := (List.getElem?_eq_some_iff.1 hu').1
          omega
        rw [e5] at h
        (conv => whnf)
        refine ⟨g, ⟨r, a, p, d⟩, q, rfl, rfl, hg, rfl, hq, ?_⟩
        repeat' (first|((conv=>whnf); (first|refine draw_plan (id := 7) [] [5] (.take 0 (.take 1 (.take 2 (.take 3 (.take 4 (.run 5 .done)))))) (by kernel_rfl) (by kernel_rfl) ?_|refine draw_plan (id := 17) [] [] (.take 0 (.take 1 (.take 2 (.take 3 (.take 4 (.take 5 (.take 6 (.take 7 (.take 8 (.take 9 (.run 10 (.take 11 .done)))))))))))) (by kernel_rfl) (by kernel_rfl) ?_|refine appK_nil ?_|refine brK_dec (fun _=>?_) (fun _=>?_)|refine brK_ndec (fun _=>?_) (fun _=>?_)|refine brK_not (fun _=>?_) (fun _=>?_)|refine brK_in (fun _=>?_) (fun _=>?_)|refine And.intro (by first|exact rfl|exact ⟨_,rfl,rfl⟩|exact ⟨rfl,rfl,rfl⟩|exact of_decide_eq_true rfl|exact trivial|assumption|omega|(show (_ ≤ _ ∧ _ ≤ _); omega)|(simp; omega)|exact ⟨by first|omega|(simp; omega),_,rfl,rfl⟩) ?_|refine Quo.l (And.intro (by first|exact rfl|assumption|omega|(simp; omega)) ?_)|refine Quo.r (And.intro (by omega) ?_)|refine Both.mk ?_ ?_|refine Exists.intro _ (And.intro rfl ?_)|refine opt_use (by assumption) ?_|refine vrow_use (by assumption) ?_|refine vrow_in (fun _ _=>?_)|refine fun _=>?_))|exact rfl)
        exact h nF
  · rename_i i hf
    obtain ⟨v, hv1, _⟩ := find_out hf
    have hpv := hp v (List.mem_of_getElem? hv1)
    have e3 : addV g ⟨r, a, p, d⟩ = (g, if sameV v ⟨r, a, p, d⟩ = true then 1 else 2) := by
      unfold addV
      rw [hf]
      simp [List.getD, hv1]
    rw [e3] at h
    repeat' (first|((conv=>whnf); (first|refine draw_plan (id := 7) [] [5] (.take 0 (.take 1 (.take 2 (.take 3 (.take 4 (.run 5 .done)))))) (by kernel_rfl) (by kernel_rfl) ?_|refine draw_plan (id := 17) [] [] (.take 0 (.take 1 (.take 2 (.take 3 (.take 4 (.take 5 (.take 6 (.take 7 (.take 8 (.take 9 (.run 10 (.take 11 .done)))))))))))) (by kernel_rfl) (by kernel_rfl) ?_|refine Exists.intro _ (And.intro (at_own (hG _ _ hv1)) ?_)|refine appK_nil ?_|refine brK_dec (fun _=>?_) (fun _=>?_)|refine brK_ndec (fun _=>?_) (fun _=>?_)|refine brK_not (fun _=>?_) (fun _=>?_)|refine brK_in (fun _=>?_) (fun _=>?_)|refine And.intro (by first|exact rfl|exact ⟨_,rfl,rfl⟩|exact ⟨rfl,rfl,rfl⟩|exact of_decide_eq_true rfl|exact trivial|assumption|omega|(show (_ ≤ _ ∧ _ ≤ _); omega)|(simp; omega)|exact ⟨by first|omega|(simp; omega),_,rfl,rfl⟩) ?_|refine Quo.l (And.intro (by first|exact rfl|assumption|omega|(simp; omega)) ?_)|refine Quo.r (And.intro (by omega) ?_)|refine Both.mk ?_ ?_|refine Exists.intro _ (And.intro rfl ?_)|refine opt_use (by assumption) ?_|refine vrow_use (by assumption) ?_|refine vrow_in (fun _ _=>?_)|refine fun _=>?_))|exact rfl)
    · rename_i q
      rw [if_pos (show sameV v ⟨r, a, p, d⟩ = true from decide_eq_true q)] at h
      exact h nF
    · rename_i q
      rw [if_neg (show ¬ sameV v ⟨r, a, p, d⟩ = true from fun e => q (of_decide_eq_true e))] at h
      exact h nF
theorem k_impl_GraphAdd : Keeps' Try.prog 14 c_spec_GraphAdd :=
  drop_graph k_impl_GraphAdd_n (Nat.le_refl _) rfl rfl fun xs hs Fs K h => by
    simp only [c_spec_GraphAdd] at h
    split at h
    case h_2 => exact h.elim
    obtain ⟨rfl, g, rfl, hcl, hg, hp, hp2, h⟩ := h
    exact ⟨rfl, rfl, g, rfl, hcl, hg, hp, hp2, fun nF => ⟨⟨_, _, rfl, rfl⟩, h⟩⟩
end Go.Proofs.Ytalbgcpfekmfoaa
