/-
The draw of a graph and a vertex that is added, read only.
No conditions.
-/
import Derived.Test.YtalbgcpfekmfoaaGaF
import Derived.Test.YtalbgcpfekmfoaaDrX
namespace Go.Proofs.Ytalbgcpfekmfoaa
open Go Go.Vc
set_option maxHeartbeats 4000000
set_option maxRecDepth 10000
def shD (r : AV) (hs : List AO) (c : List Int) : Prop := (r = .ints c ∧ hs = []) ∨ (r = .own 0 ∧ hs = [.iarr c]) ∨ (r = .sub 0 0 0 ∧ c = [] ∧ ∃ d, hs = [.iarr d])
def c_spec_DrawAdd0 : Con := ⟨3, 0, true, fun xs hs _ K => match xs with
  | [.bytes b] => hs = [] ∧ b.length ≤ 1048576 ∧ (∀ c (g : List VxD) r hs a d, c.length ≤ 20 → g.length ≤ 261 → gfit g → shD r hs c → K (.tup [r, .own hs.length, .agg [I 0, I a, .val (.slice none 0 0), I d]]) (hs ++ [.arr 4 (g.map VxD.row)]) []) ∧
      ∀ c (g : List VxD) r a p d, c.length ≤ 20 → g.length ≤ 261 → gfit g → p.length < 2000 → K (.tup [.ints c, .sl 4 (g.map VxD.row), .agg [I r, I a, .own 0, I d]]) [.iarr p] []
  | _ => False⟩
def c_spec_DrawGraphAdd : Con := ⟨3, 0, true, fun xs hs _ K => match xs with
  | [.bytes b] => hs = [] ∧ b.length ≤ 1048576 ∧ ∀ c (g : List VxD) (x : VxD), c.length ≤ 20 → g.length ≤ 261 → gfit g → x.p.length < 2000 → K (.tup [.ints c, .sl 4 (g.map VxD.row), .agg x.row]) [] []
  | _ => False⟩
theorem draw_viewA {f : FuncId} (hk : Keeps' Try.prog f c_spec_DrawAdd0) : Keeps' Try.prog f c_spec_DrawGraphAdd := by
  intro E args aargs hs Fs K hc hl hn0 hsat hrep hfx
  simp only [c_spec_DrawGraphAdd] at hc
  split at hc
  case h_2 => exact hc.elim
  rename_i b
  obtain ⟨rfl, hb, hK⟩ := hc
  have hz : E.n0 = 0 := hn0
  refine (hk E args [.bytes b] [] Fs (fun r hs nF => nF = [] ∧ ((∃ (c : List Int) (g : List VxD) (r0 : AV) (hs0 : List AO) (a d : Int), r = .tup [r0, .own hs0.length, .agg [I 0, I a, .val (.slice none 0 0), I d]] ∧ hs = hs0 ++ [.arr 4 (g.map VxD.row)] ∧ shD r0 hs0 c ∧ K (.tup [.ints c, .sl 4 (g.map VxD.row), .agg [I 0, I a, .ints [], I d]]) [] [])
      ∨ ∃ (c : List Int) (g : List VxD) (r' a d : Int) (p : List Int), r = .tup [.ints c, .sl 4 (g.map VxD.row), .agg [I r', I a, .own 0, I d]] ∧ hs = [.iarr p] ∧ K (.tup [.ints c, .sl 4 (g.map VxD.row), .agg [I r', I a, .ints p, I d]]) [] []))
    ⟨rfl, hb, fun c g r hs a d h1 h2 h3 h4 => ⟨rfl, .inl ⟨c, g, r, hs, a, d, rfl, rfl, h4, hK c g ⟨0, a, [], d⟩ h1 h2 h3 (by simp)⟩⟩, fun c g r a p d h1 h2 h3 h4 => ⟨rfl, .inr ⟨c, g, r, a, d, p, rfl, rfl, hK c g ⟨r, a, p, d⟩ h1 h2 h3 h4⟩⟩⟩ hl hn0 hsat hrep hfx).mono ?_
  rintro e w' ⟨v, r, hs, nF, ρ, A, rfl, ⟨rfl, hcase⟩, hsat', hr, _, hlen, _⟩
  obtain ⟨g1, kp, hok⟩ := satw_give hsat' hz
  have view : ∀ k r u, refOf r = some k → alive (listH hs) k → RepV (ctxOf E (listH hs) w' ρ A) r u → RepV (ctxOf E (listH []) w' ρ A) (roView (listH hs k) r) u :=
    fun k r u h1 h2 h3 => roView_rep h1 h3 (hsat'.obj k) kp (hok k h2) rfl
  have iv : ∀ (m : Int) t, RepV (ctxOf E (listH hs) w' ρ A) (I m) t → RepV (ctxOf E (listH []) w' ρ A) (I m) t := fun m t q => q.pure_move kp rfl
  rcases hcase with ⟨c, g, r0, hs0, a, d, rfl, rfl, hsh, hK⟩ | ⟨c, g, r', a, d, p, rfl, rfl, hK⟩
  · have e1 : listH (hs0 ++ [AO.arr 4 (g.map VxD.row)]) hs0.length = .arr 4 (g.map VxD.row) := by simp [listH]
    refine ⟨v, _, [], [], ρ, A, rfl, hK, g1, ?_, by simp [hz], by simp, fun h => by cases h⟩
    cases hr with
    | tup cs vs hl hn h =>
      obtain ⟨u, z, y, rfl⟩ : ∃ u z y, vs = [u, z, y] := by
        rcases vs with _ | ⟨u, _ | ⟨z, _ | ⟨y, _ | ⟨x, t⟩⟩⟩⟩ <;> simp at hl
        exact ⟨u, z, y, rfl⟩
      have q0 := h 0 _ u rfl rfl
      have q1 := h 1 _ z rfl rfl
      have q2 := h 2 _ y rfl rfl
      refine .tup _ [u, z, y] rfl hn fun i a x ha hx => ?_
      match i, ha, hx with
      | 0, ha, hx =>
        cases ha
        cases hx
        rcases hsh with ⟨rfl, rfl⟩ | ⟨rfl, rfl⟩ | ⟨rfl, rfl, d, rfl⟩
        · exact q0.pure_move kp rfl
        · exact view 0 _ _ rfl (by simp [alive, listH]) q0
        · exact view 0 _ _ rfl (by simp [alive, listH]) q0
      | 1, ha, hx =>
        cases ha
        cases hx
        have := view hs0.length _ _ rfl (by rw [alive, e1]; simp) q1
        rw [e1] at this
        exact this
      | 2, ha, hx =>
        cases ha
        cases hx
        clear hl hn h
        cases q2 with
        | agg cs2 vs2 hl2 hn2 h2 =>
          refine .agg _ vs2 hl2 hn2 fun i a v ha hv => ?_
          match i, ha with
          | 0, ha =>
            cases ha
            exact iv _ _ (h2 0 _ _ rfl hv)
          | 1, ha =>
            cases ha
            exact iv _ _ (h2 1 _ _ rfl hv)
          | 2, ha =>
            cases ha
            exact nilC_rep (a := .val (.slice none 0 0)) ((h2 2 _ _ rfl hv).pure_move kp rfl)
          | 3, ha =>
            cases ha
            exact iv _ _ (h2 3 _ _ rfl hv)
          | i + 4, ha => simp at ha
      | i + 3, ha, hx => simp at ha
  · refine ⟨v, _, [], [], ρ, A, rfl, hK, g1, ?_, by simp [hz], by simp, fun h => by cases h⟩
    cases hr with
    | tup cs vs hl hn h =>
      obtain ⟨u, z, y, rfl⟩ : ∃ u z y, vs = [u, z, y] := by
        rcases vs with _ | ⟨u, _ | ⟨z, _ | ⟨y, _ | ⟨x, t⟩⟩⟩⟩ <;> simp at hl
        exact ⟨u, z, y, rfl⟩
      have q0 := h 0 _ u rfl rfl
      have q1 := h 1 _ z rfl rfl
      have q2 := h 2 _ y rfl rfl
      refine .tup _ [u, z, y] rfl hn fun i a x ha hx => ?_
      match i, ha, hx with
      | 0, ha, hx =>
        cases ha
        cases hx
        exact q0.pure_move kp rfl
      | 1, ha, hx =>
        cases ha
        cases hx
        exact q1.pure_move kp rfl
      | 2, ha, hx =>
        cases ha
        cases hx
        clear hl hn h
        cases q2 with
        | agg cs2 vs2 hl2 hn2 h2 =>
          refine .agg _ vs2 hl2 hn2 fun i a v ha hv => ?_
          match i, ha with
          | 0, ha =>
            cases ha
            exact iv _ _ (h2 0 _ _ rfl hv)
          | 1, ha =>
            cases ha
            exact iv _ _ (h2 1 _ _ rfl hv)
          | 2, ha =>
            cases ha
            exact view 0 _ _ rfl (by simp [alive, listH]) (h2 2 _ _ rfl hv)
          | 3, ha =>
            cases ha
            exact iv _ _ (h2 3 _ _ rfl hv)
          | i + 4, ha => simp at ha
      | i + 3, ha, hx => simp at ha
theorem k_spec_DrawGraphAdd_n : Keeps' Try.prog 13 c_spec_DrawAdd0 := by
  refine keeps_of_vc mix TyT_ok (cok_cons k_spec_l6Open Try.func35 rfl rfl (cok_cons k_spec_l6Rd_pick Try.func37 rfl rfl (cok_cons k_spec_l91Spoilt Try.func36 rfl rfl (cok_cons k_spec_GraphValid Try.func38 rfl rfl (cok_cons k_spec_l91Digest Try.func39 rfl rfl (cok_cons k_spec_l91Vertex Try.func40 rfl rfl cok_nil)))))) Try.func13 rfl rfl rfl ?_
  intro aargs hs Fs K h
  simp only [c_spec_DrawAdd0] at h
  split at h
  case h_2 => exact h.elim
  rename_i b
  obtain ⟨rfl, hb, hA, hB⟩ := h
  repeat' (first|((conv=>whnf); (first|refine brK_dec (fun _=>?_) (fun _=>?_)|refine brK_ndec (fun _=>?_) (fun _=>?_)|refine brK_not (fun _=>?_) (fun _=>?_)|refine brK_in (fun _=>?_) (fun _=>?_)|refine And.intro (by first|exact rfl|exact ⟨_,rfl,rfl⟩|exact ⟨rfl,rfl,rfl⟩|exact of_decide_eq_true rfl|exact trivial|assumption|omega|(show (_ ≤ _ ∧ _ ≤ _); omega)|(simp; omega)|exact ⟨by first|omega|(simp; omega),_,rfl,rfl⟩) ?_|refine Quo.l (And.intro (by first|exact rfl|assumption|omega|(simp; omega)) ?_)|refine Quo.r (And.intro (by omega) ?_)|refine Both.mk ?_ ?_|refine Exists.intro _ (And.intro rfl ?_)|refine fun _=>?_))|exact rfl)
  rename_i b1 hb1 m m1 m2 o c g r hs p1 p2 p3 p4 p5 p6
  have hps : ∀ v ∈ g, v.p.length < 2000000 := fun v hv => Nat.lt_of_le_of_lt (p5 v hv) (by decide)
  rcases p6 with ⟨rfl, rfl⟩ | ⟨rfl, rfl⟩ | ⟨rfl, rfl, d, rfl⟩
  · repeat' (first|((conv=>whnf); (first|refine brK_dec (fun _=>?_) (fun _=>?_)|refine brK_ndec (fun _=>?_) (fun _=>?_)|refine brK_not (fun _=>?_) (fun _=>?_)|refine brK_in (fun _=>?_) (fun _=>?_)|refine And.intro (by first|exact rfl|exact ⟨_,rfl,rfl⟩|exact ⟨rfl,rfl,rfl⟩|exact of_decide_eq_true rfl|exact trivial|assumption|omega|(show (_ ≤ _ ∧ _ ≤ _); omega)|(simp; omega)|exact ⟨by first|omega|(simp; omega),_,rfl,rfl⟩) ?_|refine Quo.l (And.intro (by first|exact rfl|assumption|omega|(simp; omega)) ?_)|refine Quo.r (And.intro (by omega) ?_)|refine Both.mk ?_ ?_|refine Exists.intro _ (And.intro rfl ?_)|refine fun _=>?_))|exact rfl)
    · exact hA c g _ _ _ _ p3 p4 p5 (.inl ⟨rfl, rfl⟩)
    · exact hB c g _ _ _ _ p3 p4 p5 (by assumption)
  · repeat' (first|((conv=>whnf); (first|refine brK_dec (fun _=>?_) (fun _=>?_)|refine brK_ndec (fun _=>?_) (fun _=>?_)|refine brK_not (fun _=>?_) (fun _=>?_)|refine brK_in (fun _=>?_) (fun _=>?_)|refine And.intro (by first|exact rfl|exact ⟨_,rfl,rfl⟩|exact ⟨rfl,rfl,rfl⟩|exact of_decide_eq_true rfl|exact trivial|assumption|omega|(show (_ ≤ _ ∧ _ ≤ _); omega)|(simp; omega)|exact ⟨by first|omega|(simp; omega),_,rfl,rfl⟩) ?_|refine Quo.l (And.intro (by first|exact rfl|assumption|omega|(simp; omega)) ?_)|refine Quo.r (And.intro (by omega) ?_)|refine Both.mk ?_ ?_|refine Exists.intro _ (And.intro rfl ?_)|refine fun _=>?_))|exact rfl)
    · exact hA c g _ _ _ _ p3 p4 p5 (.inr (.inl ⟨rfl, rfl⟩))
    · exact hB c g _ _ _ _ p3 p4 p5 (by assumption)
  · repeat' (first|((conv=>whnf); (first|refine brK_dec (fun _=>?_) (fun _=>?_)|refine brK_ndec (fun _=>?_) (fun _=>?_)|refine brK_not (fun _=>?_) (fun _=>?_)|refine brK_in (fun _=>?_) (fun _=>?_)|refine And.intro (by first|exact rfl|exact ⟨_,rfl,rfl⟩|exact ⟨rfl,rfl,rfl⟩|exact of_decide_eq_true rfl|exact trivial|assumption|omega|(show (_ ≤ _ ∧ _ ≤ _); omega)|(simp; omega)|exact ⟨by first|omega|(simp; omega),_,rfl,rfl⟩) ?_|refine Quo.l (And.intro (by first|exact rfl|assumption|omega|(simp; omega)) ?_)|refine Quo.r (And.intro (by omega) ?_)|refine Both.mk ?_ ?_|refine Exists.intro _ (And.intro rfl ?_)|refine fun _=>?_))|exact rfl)
    all_goals first
      | exact hA [] g _ _ _ _ p3 p4 p5 (.inr (.inr ⟨rfl, rfl, _, rfl⟩))
      | exact hB [] g _ _ _ _ p3 p4 p5 (by assumption)
theorem k_spec_DrawGraphAdd : Keeps' Try.prog 13 c_spec_DrawGraphAdd := draw_viewA k_spec_DrawGraphAdd_n
end Go.Proofs.Ytalbgcpfekmfoaa
