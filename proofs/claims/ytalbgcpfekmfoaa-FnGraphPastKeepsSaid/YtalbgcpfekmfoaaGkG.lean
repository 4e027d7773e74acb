/-
What is left behind without families; the program's answers about graphs.
No conditions.
-/
import Derived.Test.YtalbgcpfekmfoaaWjD
namespace Go.Proofs.Ytalbgcpfekmfoaa
open Go Go.Vc
set_option maxHeartbeats 4000000
set_option maxRecDepth 10000
/-- What a function leaves behind without families: a plain value or one list of numbers. -/
def flatR (r : AV) (hs : List AO) : Prop := (hs = [] ∧ ∃ v, r = .val v) ∨ (r = .own 0 ∧ ∃ l, hs = [.iarr l])
theorem drop_fams {P : Program} {f : FuncId} {con con' : Con} (h : Keeps' P f con') (hn : con'.nnew ≤ con.nnew) (hm : con'.mode = con.mode) (hC : ∀ xs hs Fs K, con.C xs hs Fs K → hs = [] ∧ con'.C xs hs Fs fun r hs _ => flatR r hs ∧ K r hs []) : Keeps' P f con := by
  intro E args aargs hs Fs K hc hl hn0 hsat hrep hfx
  obtain ⟨rfl, hc⟩ := hC _ _ _ _ hc
  have hz : E.n0 = 0 := hn0
  refine (h E args aargs [] Fs _ hc hl hn0 hsat hrep (by rw [hm]; exact hfx)).mono ?_
  rintro e w' ⟨v, r, hs, nF, ρ, A, rfl, ⟨hflat, hK⟩, hs', hr, h1, h2, _⟩
  have kp : Vc.Keeps (ctxOf E (listH []) E.w0 E.ρ0 E.A0) (ctxOf E (listH hs) w' ρ ⟨A.at_, E.A0.n⟩) := by
    refine ⟨fun b hb => ?_, fun b hb => ?_, fun b hb => hb, fun b hb => ?_, ⟨Nat.le_refl _, fun f hf => hs'.A0 f hf⟩⟩
    · rcases hb with hb | ⟨q1, q2, _⟩
      · exact .inl hb
      · exact absurd q2 (by omega)
    · rcases hb with hb | ⟨q1, q2, _⟩
      · exact hs'.frame b (hsat.okB b hb).1 fun i hi => by omega
      · exact absurd q2 (by omega)
    · exact hs'.frame b (hsat.zB b hb).1 fun i hi => by omega
  have hobj : ∀ k, RepO (ctxOf E (listH hs) w' ρ ⟨A.at_, E.A0.n⟩) k (listH hs k) := by
    intro k
    rcases hflat with ⟨rfl, _⟩ | ⟨_, l, rfl⟩
    · trivial
    cases k with
    | succ k => trivial
    | zero =>
      obtain ⟨vs, T, q1, q2, q3, q4⟩ := hs'.obj 0
      refine ⟨vs, T, q1, q2, q3, fun i e j a v hi hj hv => ?_⟩
      obtain ⟨p1, p2⟩ := q4 i e j a v hi hj hv
      refine ⟨?_, p2⟩
      obtain ⟨x, hx, rfl⟩ := icells_get.1 hi
      cases j with
      | succ j => simp at hj
      | zero =>
        cases hj
        cases p1
        exact .val _
  have hfam : ∀ (f : Nat) fam, Fs[f]? = some fam → RepFam (ctxOf E (listH hs) w' ρ ⟨A.at_, E.A0.n⟩) f fam := fun f fam hf =>
    RepFam.move kp (by rw [← hsat.fl]; exact (List.getElem?_eq_some_iff.1 hf).1) (hsat.fam f fam hf)
  refine ⟨v, r, hs, [], ρ, ⟨A.at_, E.A0.n⟩, rfl, hK, ?_, ?_, h1, by omega, fun _ => ⟨?_, rfl⟩⟩
  · rw [List.append_nil]
    exact { hs' with fl := hsat.fl, nf := Nat.le_refl _, A0 := hs'.A0, fam := hfam, obj := hobj }
  · rcases hflat with ⟨rfl, v, rfl⟩ | ⟨rfl, l, rfl⟩
    · cases hr
      exact .val _
    · cases hr with
      | own _ sz n cap hinf hcap hr => exact .own _ sz n cap hinf hcap hr
  · rcases hflat with ⟨rfl, v, rfl⟩ | ⟨rfl, l, rfl⟩
    · exact ⟨rfl, by simp⟩
    · exact ⟨rfl, by simp [roFreeO]⟩
noncomputable def pastI (c : List Int) (g : List VxD) (r a : Int) : List Int := if gV c g = true then match findV g r a with
  | some s => natI (idxT (pastV g s))
  | none => []
  else []
def fndA (g : List VxD) (r a : Int) : Int := match findV g r a with
  | some s => s
  | none => -1
noncomputable def c_n_GraphPast : Con := ⟨1, 0, true, fun xs hs _ K => match xs with
  | [.ints c, .sl 4 rows, .val (.int .i64 r), .val (.int .i64 a)] => hs = [] ∧ ∃ g : List VxD, rows = g.map VxD.row ∧ c.length < 2000000 ∧ g.length < 2000000 ∧ (∀ v ∈ g, v.p.length < 2000000) ∧ ∀ nF : List Fam, K (.own 0) [.iarr (pastI c g r a)] nF
  | _ => False⟩
noncomputable def c_impl_GraphPast : Con := ⟨1, 0, false, fun xs hs _ K => match xs with
  | [.ints c, .sl 4 rows, .val (.int .i64 r), .val (.int .i64 a)] => hs = [] ∧ ∃ g : List VxD, rows = g.map VxD.row ∧ c.length < 2000000 ∧ g.length < 2000000 ∧ (∀ v ∈ g, v.p.length < 2000000) ∧ K (.own 0) [.iarr (pastI c g r a)] []
  | _ => False⟩
theorem k_impl_GraphPast_n : Keeps' Try.prog 17 c_n_GraphPast := by
  refine keeps_of_vc mix TyT_ok (cok_cons k_impl_linkGraph Try.func41 rfl rfl (cok_cons k_impl_graph_at Try.func44 rfl rfl (cok_cons k_impl_graph_past Try.func51 rfl rfl cok_nil))) Try.func17 rfl rfl rfl ?_
  intro aargs hs Fs K h
  simp only [c_n_GraphPast] at h
  split at h
  case h_2 => exact h.elim
  rename_i c rows r a
  obtain ⟨rfl, g, rfl, hcl, hg, hp, h⟩ := h
  repeat' (first|((conv=>whnf); (first|refine appK_nil ?_|refine brK_dec (fun _=>?_) (fun _=>?_)|refine brK_ndec (fun _=>?_) (fun _=>?_)|refine brK_not (fun _=>?_) (fun _=>?_)|refine brK_in (fun _=>?_) (fun _=>?_)|refine And.intro (by first|exact rfl|exact ⟨_,rfl,rfl⟩|exact ⟨rfl,rfl,rfl⟩|exact of_decide_eq_true rfl|exact trivial|assumption|omega|(show (_ ≤ _ ∧ _ ≤ _); omega)|(simp; omega)|exact ⟨by first|omega|(simp; omega),_,rfl,rfl⟩) ?_|refine Quo.l (And.intro (by first|exact rfl|assumption|omega|(simp; omega)) ?_)|refine Quo.r (And.intro (by omega) ?_)|refine Both.mk ?_ ?_|refine Exists.intro _ (And.intro rfl ?_)|refine fun _=>?_))|exact rfl)
  · rename_i e nF
    rw [pastI, e, if_neg (by simp)] at h
    exact h nF
  rename_i e b nF hG
  have hG : hasG ((Fs ++ []) ++ nF) b g := hG
  rw [List.append_nil] at hG
  rw [pastI, if_pos e] at h
  refine ⟨gV_comV e, b, g, rfl, gV_gin e, ?_⟩
  repeat' (first|((conv=>whnf); (first|refine appK_nil ?_|refine brK_dec (fun _=>?_) (fun _=>?_)|refine brK_ndec (fun _=>?_) (fun _=>?_)|refine brK_not (fun _=>?_) (fun _=>?_)|refine brK_in (fun _=>?_) (fun _=>?_)|refine And.intro (by first|exact rfl|exact ⟨_,rfl,rfl⟩|exact ⟨rfl,rfl,rfl⟩|exact of_decide_eq_true rfl|exact trivial|assumption|omega|(show (_ ≤ _ ∧ _ ≤ _); omega)|(simp; omega)|exact ⟨by first|omega|(simp; omega),_,rfl,rfl⟩) ?_|refine Quo.l (And.intro (by first|exact rfl|assumption|omega|(simp; omega)) ?_)|refine Quo.r (And.intro (by omega) ?_)|refine Both.mk ?_ ?_|refine Exists.intro _ (And.intro rfl ?_)|refine fun _=>?_))|exact rfl)
  · rename_i hf
    rw [hf] at h
    exact h nF
  · rename_i i hf
    rw [hf] at h
    obtain ⟨v, hv1, _⟩ := find_out hf
    refine ⟨b, g, i, rfl, rfl, hG, e, (List.getElem?_eq_some_iff.1 hv1).1, hg, hp, ?_⟩
    repeat' (first|((conv=>whnf); (first|refine appK_nil ?_|refine brK_dec (fun _=>?_) (fun _=>?_)|refine brK_ndec (fun _=>?_) (fun _=>?_)|refine brK_not (fun _=>?_) (fun _=>?_)|refine brK_in (fun _=>?_) (fun _=>?_)|refine And.intro (by first|exact rfl|exact ⟨_,rfl,rfl⟩|exact ⟨rfl,rfl,rfl⟩|exact of_decide_eq_true rfl|exact trivial|assumption|omega|(show (_ ≤ _ ∧ _ ≤ _); omega)|(simp; omega)|exact ⟨by first|omega|(simp; omega),_,rfl,rfl⟩) ?_|refine Quo.l (And.intro (by first|exact rfl|assumption|omega|(simp; omega)) ?_)|refine Quo.r (And.intro (by omega) ?_)|refine Both.mk ?_ ?_|refine Exists.intro _ (And.intro rfl ?_)|refine fun _=>?_))|exact rfl)
    exact h nF
theorem k_impl_GraphPast : Keeps' Try.prog 17 c_impl_GraphPast :=
  drop_fams k_impl_GraphPast_n (Nat.le_refl _) rfl fun xs hs Fs K h => by
    simp only [c_impl_GraphPast] at h
    split at h
    case h_2 => exact h.elim
    obtain ⟨rfl, g, rfl, hcl, hg, hp, h⟩ := h
    exact ⟨rfl, rfl, g, rfl, hcl, hg, hp, fun nF => ⟨.inr ⟨rfl, _, rfl⟩, h⟩⟩
def c_n_GraphFind : Con := ⟨0, 0, true, fun xs hs _ K => match xs with
  | [.ints c, .sl 4 rows, .val (.int .i64 r), .val (.int .i64 a)] => hs = [] ∧ ∃ g : List VxD, rows = g.map VxD.row ∧ c.length < 2000000 ∧ g.length < 2000000 ∧ (∀ v ∈ g, v.p.length < 2000000) ∧ ∀ nF : List Fam, K (I (if gV c g = true then fndA g r a else -1)) [] nF
  | _ => False⟩
def c_impl_GraphFind : Con := ⟨0, 0, false, fun xs hs _ K => match xs with
  | [.ints c, .sl 4 rows, .val (.int .i64 r), .val (.int .i64 a)] => hs = [] ∧ ∃ g : List VxD, rows = g.map VxD.row ∧ c.length < 2000000 ∧ g.length < 2000000 ∧ (∀ v ∈ g, v.p.length < 2000000) ∧ K (I (if gV c g = true then fndA g r a else -1)) [] []
  | _ => False⟩
end Go.Proofs.Ytalbgcpfekmfoaa
