/-
The draws of the laws on the order.
No conditions.
-/
import Derived.Test.YtkabnbjlglippaaGreatDoorWaX
namespace Go.Proofs.YtkabnbjlglippaaGreatDoor
open Go Go.Vc
set_option maxHeartbeats 4000000
set_option maxRecDepth 10000
theorem k_spec_DrawOrderSlots_n : Keeps' Tryz.prog 30 c_spec_DrawWaves0 := by
  refine keeps_of_vc mix TyT_ok (cok_cons k_spec_l6Open Tryz.func58 rfl rfl (cok_cons k_spec_l92Waves Tryz.func57 rfl rfl cok_nil)) Tryz.func30 rfl rfl rfl ?_
  intro aargs hs Fs K h
  simp only [c_spec_DrawWaves0] at h
  split at h
  case h_2 => exact h.elim
  rename_i b
  obtain ⟨rfl, hb, h⟩ := h
  repeat' (first|((conv=>whnf); (first|refine brK_dec (fun _=>?_) (fun _=>?_)|refine brK_ndec (fun _=>?_) (fun _=>?_)|refine brK_not (fun _=>?_) (fun _=>?_)|refine brK_in (fun _=>?_) (fun _=>?_)|refine And.intro (by first|exact rfl|exact ⟨_,rfl,rfl⟩|exact ⟨rfl,rfl,rfl⟩|exact of_decide_eq_true rfl|exact trivial|assumption|omega|(show (_ ≤ _ ∧ _ ≤ _); omega)|(simp; omega)|exact ⟨by first|omega|(simp; omega),_,rfl,rfl⟩) ?_|refine Quo.l (And.intro (by first|exact rfl|assumption|omega|(simp; omega)) ?_)|refine Quo.r (And.intro (by omega) ?_)|refine Both.mk ?_ ?_|refine Exists.intro _ (And.intro rfl ?_)|refine fun _=>?_))|exact rfl)
  rename_i b1 hb1 o c g L r hs p1 p2 p3 p4 p5 p6 p7
  rcases p7 with ⟨rfl, rfl⟩ | ⟨rfl, rfl⟩ | ⟨rfl, rfl, d, rfl⟩
  · repeat' (first|((conv=>whnf); (first|refine brK_dec (fun _=>?_) (fun _=>?_)|refine brK_ndec (fun _=>?_) (fun _=>?_)|refine brK_not (fun _=>?_) (fun _=>?_)|refine brK_in (fun _=>?_) (fun _=>?_)|refine And.intro (by first|exact rfl|exact ⟨_,rfl,rfl⟩|exact ⟨rfl,rfl,rfl⟩|exact of_decide_eq_true rfl|exact trivial|assumption|omega|(show (_ ≤ _ ∧ _ ≤ _); omega)|(simp; omega)|exact ⟨by first|omega|(simp; omega),_,rfl,rfl⟩) ?_|refine Quo.l (And.intro (by first|exact rfl|assumption|omega|(simp; omega)) ?_)|refine Quo.r (And.intro (by omega) ?_)|refine Both.mk ?_ ?_|refine Exists.intro _ (And.intro rfl ?_)|refine fun _=>?_))|exact rfl)
    exact h c g L _ _ p3 p4 p5 p6 (.inl ⟨rfl, rfl⟩)
  · repeat' (first|((conv=>whnf); (first|refine brK_dec (fun _=>?_) (fun _=>?_)|refine brK_ndec (fun _=>?_) (fun _=>?_)|refine brK_not (fun _=>?_) (fun _=>?_)|refine brK_in (fun _=>?_) (fun _=>?_)|refine And.intro (by first|exact rfl|exact ⟨_,rfl,rfl⟩|exact ⟨rfl,rfl,rfl⟩|exact of_decide_eq_true rfl|exact trivial|assumption|omega|(show (_ ≤ _ ∧ _ ≤ _); omega)|(simp; omega)|exact ⟨by first|omega|(simp; omega),_,rfl,rfl⟩) ?_|refine Quo.l (And.intro (by first|exact rfl|assumption|omega|(simp; omega)) ?_)|refine Quo.r (And.intro (by omega) ?_)|refine Both.mk ?_ ?_|refine Exists.intro _ (And.intro rfl ?_)|refine fun _=>?_))|exact rfl)
    exact h c g L _ _ p3 p4 p5 p6 (.inr (.inl ⟨rfl, rfl⟩))
  · repeat' (first|((conv=>whnf); (first|refine brK_dec (fun _=>?_) (fun _=>?_)|refine brK_ndec (fun _=>?_) (fun _=>?_)|refine brK_not (fun _=>?_) (fun _=>?_)|refine brK_in (fun _=>?_) (fun _=>?_)|refine And.intro (by first|exact rfl|exact ⟨_,rfl,rfl⟩|exact ⟨rfl,rfl,rfl⟩|exact of_decide_eq_true rfl|exact trivial|assumption|omega|(show (_ ≤ _ ∧ _ ≤ _); omega)|(simp; omega)|exact ⟨by first|omega|(simp; omega),_,rfl,rfl⟩) ?_|refine Quo.l (And.intro (by first|exact rfl|assumption|omega|(simp; omega)) ?_)|refine Quo.r (And.intro (by omega) ?_)|refine Both.mk ?_ ?_|refine Exists.intro _ (And.intro rfl ?_)|refine fun _=>?_))|exact rfl)
    exact h [] g L _ _ p3 p4 p5 p6 (.inr (.inr ⟨rfl, rfl, _, rfl⟩))
theorem k_spec_DrawOrderDigests_n : Keeps' Tryz.prog 42 c_spec_DrawWaves0 := by
  refine keeps_of_vc mix TyT_ok (cok_cons k_spec_l6Open Tryz.func58 rfl rfl (cok_cons k_spec_l92Waves Tryz.func57 rfl rfl cok_nil)) Tryz.func42 rfl rfl rfl ?_
  intro aargs hs Fs K h
  simp only [c_spec_DrawWaves0] at h
  split at h
  case h_2 => exact h.elim
  rename_i b
  obtain ⟨rfl, hb, h⟩ := h
  repeat' (first|((conv=>whnf); (first|refine brK_dec (fun _=>?_) (fun _=>?_)|refine brK_ndec (fun _=>?_) (fun _=>?_)|refine brK_not (fun _=>?_) (fun _=>?_)|refine brK_in (fun _=>?_) (fun _=>?_)|refine And.intro (by first|exact rfl|exact ⟨_,rfl,rfl⟩|exact ⟨rfl,rfl,rfl⟩|exact of_decide_eq_true rfl|exact trivial|assumption|omega|(show (_ ≤ _ ∧ _ ≤ _); omega)|(simp; omega)|exact ⟨by first|omega|(simp; omega),_,rfl,rfl⟩) ?_|refine Quo.l (And.intro (by first|exact rfl|assumption|omega|(simp; omega)) ?_)|refine Quo.r (And.intro (by omega) ?_)|refine Both.mk ?_ ?_|refine Exists.intro _ (And.intro rfl ?_)|refine fun _=>?_))|exact rfl)
  rename_i b1 hb1 o c g L r hs p1 p2 p3 p4 p5 p6 p7
  rcases p7 with ⟨rfl, rfl⟩ | ⟨rfl, rfl⟩ | ⟨rfl, rfl, d, rfl⟩
  · repeat' (first|((conv=>whnf); (first|refine brK_dec (fun _=>?_) (fun _=>?_)|refine brK_ndec (fun _=>?_) (fun _=>?_)|refine brK_not (fun _=>?_) (fun _=>?_)|refine brK_in (fun _=>?_) (fun _=>?_)|refine And.intro (by first|exact rfl|exact ⟨_,rfl,rfl⟩|exact ⟨rfl,rfl,rfl⟩|exact of_decide_eq_true rfl|exact trivial|assumption|omega|(show (_ ≤ _ ∧ _ ≤ _); omega)|(simp; omega)|exact ⟨by first|omega|(simp; omega),_,rfl,rfl⟩) ?_|refine Quo.l (And.intro (by first|exact rfl|assumption|omega|(simp; omega)) ?_)|refine Quo.r (And.intro (by omega) ?_)|refine Both.mk ?_ ?_|refine Exists.intro _ (And.intro rfl ?_)|refine fun _=>?_))|exact rfl)
    exact h c g L _ _ p3 p4 p5 p6 (.inl ⟨rfl, rfl⟩)
  · repeat' (first|((conv=>whnf); (first|refine brK_dec (fun _=>?_) (fun _=>?_)|refine brK_ndec (fun _=>?_) (fun _=>?_)|refine brK_not (fun _=>?_) (fun _=>?_)|refine brK_in (fun _=>?_) (fun _=>?_)|refine And.intro (by first|exact rfl|exact ⟨_,rfl,rfl⟩|exact ⟨rfl,rfl,rfl⟩|exact of_decide_eq_true rfl|exact trivial|assumption|omega|(show (_ ≤ _ ∧ _ ≤ _); omega)|(simp; omega)|exact ⟨by first|omega|(simp; omega),_,rfl,rfl⟩) ?_|refine Quo.l (And.intro (by first|exact rfl|assumption|omega|(simp; omega)) ?_)|refine Quo.r (And.intro (by omega) ?_)|refine Both.mk ?_ ?_|refine Exists.intro _ (And.intro rfl ?_)|refine fun _=>?_))|exact rfl)
    exact h c g L _ _ p3 p4 p5 p6 (.inr (.inl ⟨rfl, rfl⟩))
  · repeat' (first|((conv=>whnf); (first|refine brK_dec (fun _=>?_) (fun _=>?_)|refine brK_ndec (fun _=>?_) (fun _=>?_)|refine brK_not (fun _=>?_) (fun _=>?_)|refine brK_in (fun _=>?_) (fun _=>?_)|refine And.intro (by first|exact rfl|exact ⟨_,rfl,rfl⟩|exact ⟨rfl,rfl,rfl⟩|exact of_decide_eq_true rfl|exact trivial|assumption|omega|(show (_ ≤ _ ∧ _ ≤ _); omega)|(simp; omega)|exact ⟨by first|omega|(simp; omega),_,rfl,rfl⟩) ?_|refine Quo.l (And.intro (by first|exact rfl|assumption|omega|(simp; omega)) ?_)|refine Quo.r (And.intro (by omega) ?_)|refine Both.mk ?_ ?_|refine Exists.intro _ (And.intro rfl ?_)|refine fun _=>?_))|exact rfl)
    exact h [] g L _ _ p3 p4 p5 p6 (.inr (.inr ⟨rfl, rfl, _, rfl⟩))
theorem k_spec_DrawOrderSlots : Keeps' Tryz.prog 30 c_spec_DrawCommitWaves := draw_view k_spec_DrawOrderSlots_n
theorem k_spec_DrawOrderDigests : Keeps' Tryz.prog 42 c_spec_DrawCommitWaves := draw_view k_spec_DrawOrderDigests_n
def c_spec_DrawSlot0 : Con := ⟨3, 0, true, fun xs hs _ K => match xs with
  | [.bytes b] => hs = [] ∧ b.length ≤ 1048576 ∧ ∀ c (g : List VxD) L r hs (x y : Int), c.length ≤ 20 → g.length ≤ 261 → gfit g → L.length ≤ 30 → shD r hs c → K (.tup [r, .own hs.length, .own (1 + hs.length), .agg [I x, I y]]) (hs ++ [.arr 4 (g.map VxD.row), .iarr L]) []
  | _ => False⟩
theorem k_spec_DrawOrderWave_n : Keeps' Tryz.prog 38 c_spec_DrawSlot0 := by
  refine keeps_of_vc mix TyT_ok (cok_cons k_spec_l6Open Tryz.func58 rfl rfl (cok_cons k_spec_l92Waves Tryz.func57 rfl rfl (cok_cons k_spec_l6Rd_pick Tryz.func66 rfl rfl cok_nil))) Tryz.func38 rfl rfl rfl ?_
  intro aargs hs Fs K h
  simp only [c_spec_DrawSlot0] at h
  split at h
  case h_2 => exact h.elim
  rename_i b
  obtain ⟨rfl, hb, h⟩ := h
  repeat' (first|((conv=>whnf); (first|refine brK_dec (fun _=>?_) (fun _=>?_)|refine brK_ndec (fun _=>?_) (fun _=>?_)|refine brK_not (fun _=>?_) (fun _=>?_)|refine brK_in (fun _=>?_) (fun _=>?_)|refine And.intro (by first|exact rfl|exact ⟨_,rfl,rfl⟩|exact ⟨rfl,rfl,rfl⟩|exact of_decide_eq_true rfl|exact trivial|assumption|omega|(show (_ ≤ _ ∧ _ ≤ _); omega)|(simp; omega)|exact ⟨by first|omega|(simp; omega),_,rfl,rfl⟩) ?_|refine Quo.l (And.intro (by first|exact rfl|assumption|omega|(simp; omega)) ?_)|refine Quo.r (And.intro (by omega) ?_)|refine Both.mk ?_ ?_|refine Exists.intro _ (And.intro rfl ?_)|refine fun _=>?_))|exact rfl)
  rename_i b1 hb1 o c g L r hs p1 p2 p3 p4 p5 p6 p7
  rcases p7 with ⟨rfl, rfl⟩ | ⟨rfl, rfl⟩ | ⟨rfl, rfl, d, rfl⟩
  · repeat' (first|((conv=>whnf); (first|refine brK_dec (fun _=>?_) (fun _=>?_)|refine brK_ndec (fun _=>?_) (fun _=>?_)|refine brK_not (fun _=>?_) (fun _=>?_)|refine brK_in (fun _=>?_) (fun _=>?_)|refine And.intro (by first|exact rfl|exact ⟨_,rfl,rfl⟩|exact ⟨rfl,rfl,rfl⟩|exact of_decide_eq_true rfl|exact trivial|assumption|omega|(show (_ ≤ _ ∧ _ ≤ _); omega)|(simp; omega)|exact ⟨by first|omega|(simp; omega),_,rfl,rfl⟩) ?_|refine Quo.l (And.intro (by first|exact rfl|assumption|omega|(simp; omega)) ?_)|refine Quo.r (And.intro (by omega) ?_)|refine Both.mk ?_ ?_|refine Exists.intro _ (And.intro rfl ?_)|refine fun _=>?_))|exact rfl)
    exact h c g L _ _ _ _ p3 p4 p5 p6 (.inl ⟨rfl, rfl⟩)
  · repeat' (first|((conv=>whnf); (first|refine brK_dec (fun _=>?_) (fun _=>?_)|refine brK_ndec (fun _=>?_) (fun _=>?_)|refine brK_not (fun _=>?_) (fun _=>?_)|refine brK_in (fun _=>?_) (fun _=>?_)|refine And.intro (by first|exact rfl|exact ⟨_,rfl,rfl⟩|exact ⟨rfl,rfl,rfl⟩|exact of_decide_eq_true rfl|exact trivial|assumption|omega|(show (_ ≤ _ ∧ _ ≤ _); omega)|(simp; omega)|exact ⟨by first|omega|(simp; omega),_,rfl,rfl⟩) ?_|refine Quo.l (And.intro (by first|exact rfl|assumption|omega|(simp; omega)) ?_)|refine Quo.r (And.intro (by omega) ?_)|refine Both.mk ?_ ?_|refine Exists.intro _ (And.intro rfl ?_)|refine fun _=>?_))|exact rfl)
    exact h c g L _ _ _ _ p3 p4 p5 p6 (.inr (.inl ⟨rfl, rfl⟩))
  · repeat' (first|((conv=>whnf); (first|refine brK_dec (fun _=>?_) (fun _=>?_)|refine brK_ndec (fun _=>?_) (fun _=>?_)|refine brK_not (fun _=>?_) (fun _=>?_)|refine brK_in (fun _=>?_) (fun _=>?_)|refine And.intro (by first|exact rfl|exact ⟨_,rfl,rfl⟩|exact ⟨rfl,rfl,rfl⟩|exact of_decide_eq_true rfl|exact trivial|assumption|omega|(show (_ ≤ _ ∧ _ ≤ _); omega)|(simp; omega)|exact ⟨by first|omega|(simp; omega),_,rfl,rfl⟩) ?_|refine Quo.l (And.intro (by first|exact rfl|assumption|omega|(simp; omega)) ?_)|refine Quo.r (And.intro (by omega) ?_)|refine Both.mk ?_ ?_|refine Exists.intro _ (And.intro rfl ?_)|refine fun _=>?_))|exact rfl)
    exact h [] g L _ _ _ _ p3 p4 p5 p6 (.inr (.inr ⟨rfl, rfl, _, rfl⟩))
def c_spec_DrawOrderWave : Con := ⟨3, 0, true, fun xs hs _ K => match xs with
  | [.bytes b] => hs = [] ∧ b.length ≤ 1048576 ∧ ∀ c (g : List VxD) L (x y : Int), c.length ≤ 20 → g.length ≤ 261 → gfit g → L.length ≤ 30 → K (.tup [.ints c, .sl 4 (g.map VxD.row), .ints L, .agg [I x, I y]]) [] []
  | _ => False⟩
theorem k_spec_DrawOrderWave : Keeps' Tryz.prog 38 c_spec_DrawOrderWave := by
  intro E args aargs hs Fs K hc hl hn0 hsat hrep hfx
  simp only [c_spec_DrawOrderWave] at hc
  split at hc
  case h_2 => exact hc.elim
  rename_i b
  obtain ⟨rfl, hb, hK⟩ := hc
  have hz : E.n0 = 0 := hn0
  refine (k_spec_DrawOrderWave_n E args [.bytes b] [] Fs (fun r hs nF => nF = [] ∧ ∃ c g L r0 hs0 x y, r = .tup [r0, .own hs0.length, .own (1 + hs0.length), .agg [I x, I y]] ∧ hs = hs0 ++ [.arr 4 (g.map VxD.row), .iarr L] ∧ shD r0 hs0 c ∧ K (.tup [.ints c, .sl 4 (g.map VxD.row), .ints L, .agg [I x, I y]]) [] [])
    ⟨rfl, hb, fun c g L r hs x y h1 h2 h3 h4 h5 => ⟨rfl, c, g, L, r, hs, x, y, rfl, rfl, h5, hK c g L x y h1 h2 h3 h4⟩⟩ hl hn0 hsat hrep hfx).mono ?_
  rintro e w' ⟨v, r, hs, nF, ρ, A, rfl, ⟨rfl, c, g, L, r0, hs0, x, y, rfl, rfl, hsh, hK⟩, hsat', hr, _, hlen, _⟩
  obtain ⟨g1, kp, hok⟩ := satw_give hsat' hz
  have view : ∀ k r u, refOf r = some k → alive (listH (hs0 ++ [AO.arr 4 (g.map VxD.row), AO.iarr L])) k → RepV (ctxOf E (listH (hs0 ++ [AO.arr 4 (g.map VxD.row), AO.iarr L])) w' ρ A) r u → RepV (ctxOf E (listH []) w' ρ A) (roView (listH (hs0 ++ [AO.arr 4 (g.map VxD.row), AO.iarr L]) k) r) u :=
    fun k r u h1 h2 h3 => roView_rep h1 h3 (hsat'.obj k) kp (hok k h2) rfl
  have e1 : listH (hs0 ++ [AO.arr 4 (g.map VxD.row), AO.iarr L]) hs0.length = .arr 4 (g.map VxD.row) := by simp [listH]
  have e2 : listH (hs0 ++ [AO.arr 4 (g.map VxD.row), AO.iarr L]) (1 + hs0.length) = .iarr L := by
    have e : (hs0 ++ [AO.arr 4 (g.map VxD.row), AO.iarr L])[1 + hs0.length]? = some (.iarr L) := by
      rw [List.getElem?_append_right (by omega), show 1 + hs0.length - hs0.length = 1 by omega]
      rfl
    unfold listH
    rw [List.getD_eq_getElem?_getD, e]
    rfl
  refine ⟨v, _, [], [], ρ, A, rfl, hK, g1, ?_, by simp [hz], by simp, fun h => by cases h⟩
  cases hr with
  | tup cs vs hl hn h =>
    obtain ⟨u, z, y1, t, rfl⟩ : ∃ u z y t, vs = [u, z, y, t] := by
      rcases vs with _ | ⟨u, _ | ⟨z, _ | ⟨y, _ | ⟨x, _ | ⟨q, t⟩⟩⟩⟩⟩ <;> simp at hl
      exact ⟨u, z, y, x, rfl⟩
    have q0 := h 0 _ u rfl rfl
    have q1 := h 1 _ z rfl rfl
    have q2 := h 2 _ y1 rfl rfl
    have q3 := h 3 _ t rfl rfl
    refine .tup _ [u, z, y1, t] rfl hn fun i a x ha hx => ?_
    match i, ha, hx with
    | 0, ha, hx =>
      cases ha
      cases hx
      rcases hsh with ⟨rfl, rfl⟩ | ⟨rfl, rfl⟩ | ⟨rfl, rfl, d, rfl⟩
      · exact q0.pure_move kp rfl
      · exact view 0 _ _ rfl (by simp [alive, listH]) q0
      · exact view 0 _ _ rfl (by simp [alive, listH]) q0
    | 1, ha, hx =>
      cases ha
      cases hx
      have := view hs0.length _ _ rfl (by rw [alive, e1]; simp) q1
      rw [e1] at this
      exact this
    | 2, ha, hx =>
      cases ha
      cases hx
      have := view (1 + hs0.length) _ _ rfl (by rw [alive, e2]; simp) q2
      rw [e2] at this
      exact this
    | 3, ha, hx =>
      cases ha
      cases hx
      exact q3.pure_move kp rfl
    | i + 4, ha, hx => simp at ha
end Go.Proofs.YtkabnbjlglippaaGreatDoor
