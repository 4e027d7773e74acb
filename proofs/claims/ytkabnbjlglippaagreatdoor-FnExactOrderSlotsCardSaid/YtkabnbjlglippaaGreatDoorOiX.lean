/-
The program's answers about the order; its linked graph is left behind.
No conditions.
-/
import Derived.Test.YtkabnbjlglippaaGreatDoorOrA
import Derived.Test.YtkabnbjlglippaaGreatDoorWkG
namespace Go.Proofs.YtkabnbjlglippaaGreatDoor
open Go Go.Vc
set_option maxHeartbeats 4000000
set_option maxRecDepth 10000
variable {g : List VxD} {L : List Int} {W : List Nat}
/-- What a function leaves behind without families: a plain value or one list of rows of plain values. -/
def flatA (r : AV) (hs : List AO) : Prop := (hs = [] ∧ ∃ v, r = .val v) ∨ (r = .own 0 ∧ ∃ sz l, hs = [.arr sz l] ∧ ∀ e ∈ l, ∀ a ∈ e, ∃ v, a = AV.val v)
theorem drop_rows {P : Program} {f : FuncId} {con con' : Con} (h : Keeps' P f con') (hn : con'.nnew ≤ con.nnew) (hm : con'.mode = con.mode) (hC : ∀ xs hs Fs K, con.C xs hs Fs K → hs = [] ∧ con'.C xs hs Fs fun r hs _ => flatA r hs ∧ K r hs []) : Keeps' P f con := by
  intro E args aargs hs Fs K hc hl hn0 hsat hrep hfx
  obtain ⟨rfl, hc⟩ := hC _ _ _ _ hc
  have hz : E.n0 = 0 := hn0
  refine (h E args aargs [] Fs _ hc hl hn0 hsat hrep (by rw [hm]; exact hfx)).mono ?_
  rintro e w' ⟨v, r, hs, nF, ρ, A, rfl, ⟨hflat, hK⟩, hs', hr, h1, h2, _⟩
  have kp : Vc.Keeps (ctxOf E (listH []) E.w0 E.ρ0 E.A0) (ctxOf E (listH hs) w' ρ ⟨A.at_, E.A0.n⟩) := by
    refine ⟨fun b hb => ?_, fun b hb => ?_, fun b hb => hb, fun b hb => ?_, ⟨Nat.le_refl _, fun f hf => hs'.A0 f hf⟩⟩
    · rcases hb with hb | ⟨q1, q2, _⟩
      · exact .inl hb
      · exact absurd q2 (by omega)
    · rcases hb with hb | ⟨q1, q2, _⟩
      · exact hs'.frame b (hsat.okB b hb).1 fun i hi => by omega
      · exact absurd q2 (by omega)
    · exact hs'.frame b (hsat.zB b hb).1 fun i hi => by omega
  have hobj : ∀ k, RepO (ctxOf E (listH hs) w' ρ ⟨A.at_, E.A0.n⟩) k (listH hs k) := by
    intro k
    rcases hflat with ⟨rfl, _⟩ | ⟨_, sz, l, rfl, hv⟩
    · trivial
    cases k with
    | succ k => trivial
    | zero =>
      obtain ⟨vs, T, q1, q2, q3, q5, q4⟩ := hs'.obj 0
      refine ⟨vs, T, q1, q2, q3, q5, fun i e j a v hi hj hv0 => ?_⟩
      obtain ⟨p1, p2⟩ := q4 i e j a v hi hj hv0
      refine ⟨?_, p2⟩
      obtain ⟨x, rfl⟩ := hv e (List.mem_of_getElem? hi) a (List.mem_of_getElem? hj)
      cases p1
      exact .val _
  have hfam : ∀ (f : Nat) fam, Fs[f]? = some fam → RepFam (ctxOf E (listH hs) w' ρ ⟨A.at_, E.A0.n⟩) f fam := fun f fam hf =>
    RepFam.move kp (by rw [← hsat.fl]; exact (List.getElem?_eq_some_iff.1 hf).1) (hsat.fam f fam hf)
  refine ⟨v, r, hs, [], ρ, ⟨A.at_, E.A0.n⟩, rfl, hK, ?_, ?_, h1, by omega, fun _ => ⟨?_, rfl⟩⟩
  · rw [List.append_nil]
    exact { hs' with fl := hsat.fl, nf := Nat.le_refl _, A0 := hs'.A0, fam := hfam, obj := hobj }
  · rcases hflat with ⟨rfl, v, rfl⟩ | ⟨rfl, sz, l, rfl, _⟩
    · cases hr
      exact .val _
    · cases hr with
      | own _ sz n cap hinf hcap hr => exact .own _ sz n cap hinf hcap hr
  · rcases hflat with ⟨rfl, v, rfl⟩ | ⟨rfl, sz, l, rfl, hv⟩
    · exact ⟨rfl, by simp⟩
    · refine ⟨rfl, ?_⟩
      intro o ho
      rw [List.mem_singleton.1 ho]
      intro e he a ha
      obtain ⟨x, rfl⟩ := hv e he a ha
      rfl
/-- The order: vertices with their waves. -/
noncomputable def ordO (g : List VxD) (L : List Int) (W : List Nat) : List (VxD × Nat) := W.flatMap fun w => (blkX g L W w).map fun v => (v, w)
theorem ordR_eq : ordR g L W W = (ordO g L W).map fun p => oRow p.2 p.1 := by
  unfold ordR ordO
  rw [List.map_flatMap]
  simp [Function.comp_def]
theorem ordX_of : ordX g L W = (ordO g L W).map fun p => p.1 := by
  unfold ordX ordO
  rw [List.map_flatMap]
  simp [Function.comp_def]
theorem ordO_mem {v : VxD} {w : Nat} : (v, w) ∈ ordO g L W ↔ w ∈ W ∧ ∃ k, g[k]? = some v ∧ wvV g L W k = w := by
  unfold ordO
  rw [List.mem_flatMap]
  constructor
  · rintro ⟨x, hx, h⟩
    obtain ⟨u, hu, e⟩ := List.mem_map.1 h
    cases e
    exact ⟨hx, blkX_mem.1 hu⟩
  · rintro ⟨h1, h2⟩
    exact ⟨w, h1, List.mem_map.2 ⟨v, blkX_mem.2 h2, rfl⟩⟩
theorem orow_in {o : List (VxD × Nat)} {n : Nat} {P : List AV → Prop} (h : ∀ p, o[n]? = some p → P (oRow p.2 p.1)) : ∀ e, (o.map fun p => oRow p.2 p.1)[n]? = some e → P e := by
  intro e he
  rw [List.getElem?_map] at he
  obtain ⟨v, hv, rfl⟩ := Option.map_eq_some_iff.1 he
  exact h v hv
theorem orow_use {o : List (VxD × Nat)} {n : Nat} {p : VxD × Nat} {P : List AV → Prop} (hp : o[n]? = some p) (h : P (oRow p.2 p.1)) : ∀ e, (o.map fun p => oRow p.2 p.1)[n]? = some e → P e :=
  orow_in fun q hq => by
    rw [hp] at hq
    cases hq
    exact h
theorem ordO_len : (ordO g L W).length ≤ W.length * g.length := by
  have := ordR_len (g := g) (L := L) (W := W) (W' := W)
  rw [ordR_eq, List.length_map] at this
  exact this
/-- A vertex's place; a place as cells. -/
def sP (v : VxD) : Int × Int := (v.r, v.a)
def pR (p : Int × Int) : List AV := [I p.1, I p.2]
def okO (c : List Int) (g : List VxD) (L : List Int) : Bool := gV c g && leadersV c L
noncomputable def slotsO (c : List Int) (g : List VxD) (L : List Int) : List VxD := if okO c g L = true then ordX g L (outV c g L) else []
noncomputable def slotsP (c : List Int) (g : List VxD) (L : List Int) : List (Int × Int) := (slotsO c g L).map sP
noncomputable def waveO (c : List Int) (g : List VxD) (L : List Int) (r a : Int) : Int := if okO c g L = true then match findV g r a with
  | some k => wvV g L (outV c g L) k
  | none => -1
  else -1
def c_vertex_slot : Con := ⟨0, 0, false, fun xs hs _ K => match xs with
  | [.agg [.val (.int .i64 r), .val (.int .i64 a), .ints _, .val (.int .i64 _)]] => hs = [] ∧ K (.agg [I r, I a]) [] []
  | _ => False⟩
theorem k_impl_Vertex_slot : Keeps' Tryz.prog 55 c_vertex_slot := by
  refine keeps_of_vc mix TyT_ok cok_nil Tryz.func55 rfl rfl rfl ?_
  intro aargs hs Fs K h
  simp only [c_vertex_slot] at h
  split at h
  case h_2 => exact h.elim
  rename_i r a p d
  obtain ⟨rfl, h⟩ := h
  repeat' (first|((conv=>whnf); (first|refine brK_dec (fun _=>?_) (fun _=>?_)|refine brK_ndec (fun _=>?_) (fun _=>?_)|refine brK_not (fun _=>?_) (fun _=>?_)|refine brK_in (fun _=>?_) (fun _=>?_)|refine And.intro (by first|exact rfl|exact ⟨_,rfl,rfl⟩|exact ⟨rfl,rfl,rfl⟩|exact of_decide_eq_true rfl|exact trivial|assumption|omega|(show (_ ≤ _ ∧ _ ≤ _); omega)|(simp; omega)|exact ⟨by first|omega|(simp; omega),_,rfl,rfl⟩) ?_|refine Quo.l (And.intro (by first|exact rfl|assumption|omega|(simp; omega)) ?_)|refine Quo.r (And.intro (by omega) ?_)|refine Both.mk ?_ ?_|refine Exists.intro _ (And.intro rfl ?_)|refine fun _=>?_))|exact rfl)
  exact h
theorem out_len15 {c : List Int} (hL : L.length ≤ 15) : (outV c g L).length ≤ 15 := by
  have := (wav_len (c := c) (g := g) (L := L) (n := L.length)).1
  have e : (wavL c g L L.length).1 = outV c g L := rfl
  rw [e] at this
  omega
noncomputable def c_n_OrderSlots : Con := ⟨1, 0, true, fun xs hs Fs K => match xs with
  | [.ints c, .sl 4 rows, .ints L] => hs = [] ∧ ∃ g : List VxD, rows = g.map VxD.row ∧ ∃ p0 p1 p2, hasErr Fs p0 p1 p2 ∧ c.length < 2000000 ∧ g.length < 2000000 ∧ (∀ v ∈ g, v.p.length < 2000000) ∧ L.length < 2000000 ∧ ∀ nF : List Fam, K (.own 0) [.arr 2 ((slotsP c g L).map pR)] nF
  | _ => False⟩
noncomputable def c_impl_OrderSlots : Con := ⟨1, 0, false, fun xs hs Fs K => match xs with
  | [.ints c, .sl 4 rows, .ints L] => hs = [] ∧ ∃ g : List VxD, rows = g.map VxD.row ∧ ∃ p0 p1 p2, hasErr Fs p0 p1 p2 ∧ c.length < 2000000 ∧ g.length < 2000000 ∧ (∀ v ∈ g, v.p.length < 2000000) ∧ L.length < 2000000 ∧ K (.own 0) [.arr 2 ((slotsP c g L).map pR)] []
  | _ => False⟩
theorem k_impl_OrderSlots_n : Keeps' Tryz.prog 26 c_n_OrderSlots := by
  refine keeps_of_vc mix TyT_ok (cok_cons k_impl_newWaves Tryz.func52 rfl rfl (cok_cons k_impl_waves_order Tryz.func53 rfl rfl (cok_cons k_impl_Vertex_slot Tryz.func55 rfl rfl cok_nil))) Tryz.func26 rfl rfl rfl ?_
  intro aargs hs Fs K h
  simp only [c_n_OrderSlots] at h
  split at h
  case h_2 => exact h.elim
  rename_i c rows L
  obtain ⟨rfl, g, rfl, p0, p1, p2, hE, hcl, hg, hp, hL, h⟩ := h
  repeat' (first|((conv=>whnf); (first|refine Exists.intro p0 (Exists.intro p1 (Exists.intro p2 (And.intro (err_app hE) ?_)))|refine appK_nil ?_|refine brK_dec (fun _=>?_) (fun _=>?_)|refine brK_ndec (fun _=>?_) (fun _=>?_)|refine brK_not (fun _=>?_) (fun _=>?_)|refine brK_in (fun _=>?_) (fun _=>?_)|refine And.intro (by first|exact rfl|exact ⟨_,rfl,rfl⟩|exact ⟨rfl,rfl,rfl⟩|exact of_decide_eq_true rfl|exact trivial|assumption|omega|(show (_ ≤ _ ∧ _ ≤ _); omega)|(simp; omega)|exact ⟨by first|omega|(simp; omega),_,rfl,rfl⟩) ?_|refine Quo.l (And.intro (by first|exact rfl|assumption|omega|(simp; omega)) ?_)|refine Quo.r (And.intro (by omega) ?_)|refine Both.mk ?_ ?_|refine Exists.intro _ (And.intro rfl ?_)|refine fun _=>?_))|exact rfl)
  · rename_i e nF
    rw [slotsP, slotsO, okO, e] at h
    exact h nF
  rename_i e b nF hG
  have hG : hasG ((Fs ++ []) ++ nF) b g := hG
  rw [List.append_nil] at hG
  have hv := and1 e
  have hL15 := leaders_len (and2 e)
  refine ⟨b, g, p0, p1, p2, rfl, rfl, hv, hg, hp, hG, err_app hE, hL15, ?_⟩
  rw [slotsP, slotsO, okO, if_pos e] at h
  have hol := ordO_len (g := g) (L := L) (W := outV c g L)
  have hW := out_len15 (c := c) (g := g) hL15
  have hol2 : (outV c g L).length * g.length ≤ 15 * g.length := Nat.mul_le_mul_right _ hW
  rw [ordX_of] at h
  rw [ordR_eq]
  generalize ordO g L (outV c g L) = O at h hol ⊢
  have hOm : (O.map fun p => oRow p.2 p.1).length = O.length := by simp
  have hsp : (O.map (fun p => p.1)).map sP = O.map fun p => sP p.1 := by simp [List.map_map]
  rw [hsp] at h
  repeat' (first|((conv=>whnf); (first|refine Exists.intro p0 (Exists.intro p1 (Exists.intro p2 (And.intro (err_app hE) ?_)))|refine appK_nil ?_|refine brK_dec (fun _=>?_) (fun _=>?_)|refine brK_ndec (fun _=>?_) (fun _=>?_)|refine brK_not (fun _=>?_) (fun _=>?_)|refine brK_in (fun _=>?_) (fun _=>?_)|refine And.intro (by first|exact rfl|exact ⟨_,rfl,rfl⟩|exact ⟨rfl,rfl,rfl⟩|exact of_decide_eq_true rfl|exact trivial|assumption|omega|(show (_ ≤ _ ∧ _ ≤ _); omega)|(simp; omega)|exact ⟨by first|omega|(simp; omega),_,rfl,rfl⟩) ?_|refine Quo.l (And.intro (by first|exact rfl|assumption|omega|(simp; omega)) ?_)|refine Quo.r (And.intro (by omega) ?_)|refine Both.mk ?_ ?_|refine Exists.intro _ (And.intro rfl ?_)|refine fun _=>?_))|exact rfl)
  refine loop_in (ι := Nat) (fun i => ⟨mkE 0 38 [(7, .own 0), (24, .own 1), (25, I (O.map fun p => oRow p.2 p.1).length), (26, I i)], [.arr 2 (((O.take i).map fun p => sP p.1).map pR), .arr 5 (O.map fun p => oRow p.2 p.1)], Fs, nF⟩) (fun i => i ≤ O.length) (fun i => O.length - i) 0 [0, 2] (Nat.zero_le _) ?_ ?_
  · repeat' (first|((conv=>whnf); (first|refine Exists.intro p0 (Exists.intro p1 (Exists.intro p2 (And.intro (err_app hE) ?_)))|refine appK_nil ?_|refine brK_dec (fun _=>?_) (fun _=>?_)|refine brK_ndec (fun _=>?_) (fun _=>?_)|refine brK_not (fun _=>?_) (fun _=>?_)|refine brK_in (fun _=>?_) (fun _=>?_)|refine And.intro (by first|exact rfl|exact ⟨_,rfl,rfl⟩|exact ⟨rfl,rfl,rfl⟩|exact of_decide_eq_true rfl|exact trivial|assumption|omega|(show (_ ≤ _ ∧ _ ≤ _); omega)|(simp; omega)|exact ⟨by first|omega|(simp; omega),_,rfl,rfl⟩) ?_|refine Quo.l (And.intro (by first|exact rfl|assumption|omega|(simp; omega)) ?_)|refine Quo.r (And.intro (by omega) ?_)|refine Both.mk ?_ ?_|refine Exists.intro _ (And.intro rfl ?_)|refine fun _=>?_))|exact rfl)
  intro i hi
  dsimp only at hi ⊢
  rcases Nat.lt_or_ge i O.length with hil | hil
  · obtain ⟨p, hpi⟩ : ∃ p, O[i]? = some p := ⟨_, List.getElem?_eq_getElem hil⟩
    have hpi2 : O[((i : Nat) : Int).toNat]? = some p := hpi
    have htl : (((O.take i).map fun p => sP p.1).map pR).length = i := by simp; omega
    repeat' (first|((conv=>whnf); (first|refine appK_nil ?_|refine brK_dec (fun _=>?_) (fun _=>?_)|refine brK_ndec (fun _=>?_) (fun _=>?_)|refine brK_not (fun _=>?_) (fun _=>?_)|refine brK_in (fun _=>?_) (fun _=>?_)|refine And.intro (by first|exact rfl|exact (by first|(show (_ + 1) * 16 ≤ 140737488355328; omega)|(show _ + 1 ≤ 9223372036854775807; omega))|exact ⟨_,rfl,rfl⟩|exact ⟨rfl,rfl,rfl⟩|exact of_decide_eq_true rfl|exact trivial|assumption|omega|(show (_ ≤ _ ∧ _ ≤ _); omega)|(simp; omega)|exact ⟨by first|omega|(simp; omega),_,rfl,rfl⟩) ?_|refine Quo.l (And.intro (by first|exact rfl|exact (by first|(show (_ + 1) * 16 ≤ 140737488355328; omega)|(show _ + 1 ≤ 9223372036854775807; omega))|assumption|omega|(simp; omega)) ?_)|refine Quo.r (And.intro (by omega) ?_)|refine Both.mk ?_ ?_|refine Exists.intro _ (And.intro rfl ?_)|refine orow_use (by assumption) ?_|refine fun _=>?_))|exact rfl)
    · have e1 : ((O.take (i + 1)).map fun p => sP p.1).map pR = (((O.take i).map fun p => sP p.1).map pR).take (((O.take i).map fun p => sP p.1).map pR).length ++ [pR (sP p.1)] := by
        rw [List.take_add_one, hpi, List.take_length]
        simp
      refine ⟨i + 1, [0, 1], by omega, by omega, ?_⟩
      repeat' (first|((conv=>whnf); (first|refine brK_dec (fun _=>?_) (fun _=>?_)|refine brK_ndec (fun _=>?_) (fun _=>?_)|refine brK_not (fun _=>?_) (fun _=>?_)|refine brK_in (fun _=>?_) (fun _=>?_)|refine And.intro (by first|exact rfl|exact e1|exact ⟨_,rfl,rfl⟩|exact ⟨rfl,rfl,rfl⟩|exact of_decide_eq_true rfl|exact trivial|assumption|omega|(show (_ ≤ _ ∧ _ ≤ _); omega)|(simp; omega)|exact ⟨by first|omega|(simp; omega),_,rfl,rfl⟩) ?_|refine Quo.l (And.intro (by first|exact rfl|exact e1|assumption|omega|(simp; omega)) ?_)|refine Quo.r (And.intro (by omega) ?_)|refine Both.mk ?_ ?_|refine Exists.intro _ (And.intro rfl ?_)|refine orow_use (by assumption) ?_|refine fun _=>?_))|exact rfl)
    · omega
  · obtain rfl : i = O.length := by omega
    repeat' (first|((conv=>whnf); (first|refine brK_dec (fun _=>?_) (fun _=>?_)|refine brK_ndec (fun _=>?_) (fun _=>?_)|refine brK_not (fun _=>?_) (fun _=>?_)|refine brK_in (fun _=>?_) (fun _=>?_)|refine And.intro (by first|exact rfl|exact ⟨_,rfl,rfl⟩|exact ⟨rfl,rfl,rfl⟩|exact of_decide_eq_true rfl|exact trivial|assumption|omega|(show (_ ≤ _ ∧ _ ≤ _); omega)|(simp; omega)|exact ⟨by first|omega|(simp; omega),_,rfl,rfl⟩) ?_|refine Quo.l (And.intro (by first|exact rfl|assumption|omega|(simp; omega)) ?_)|refine Quo.r (And.intro (by omega) ?_)|refine Both.mk ?_ ?_|refine Exists.intro _ (And.intro rfl ?_)|refine orow_use (by assumption) ?_|refine fun _=>?_))|exact rfl)
    · omega
    rw [List.take_length]
    exact h nF
theorem k_impl_OrderSlots : Keeps' Tryz.prog 26 c_impl_OrderSlots :=
  drop_rows k_impl_OrderSlots_n (Nat.le_refl _) rfl fun xs hs Fs K h => by
    simp only [c_impl_OrderSlots] at h
    split at h
    case h_2 => exact h.elim
    obtain ⟨rfl, g, rfl, p0, p1, p2, hE, hcl, hg, hp, hL, h⟩ := h
    refine ⟨rfl, rfl, g, rfl, p0, p1, p2, hE, hcl, hg, hp, hL, fun nF => ⟨.inr ⟨rfl, 2, _, rfl, fun e he a ha => ?_⟩, h⟩⟩
    obtain ⟨p, _, rfl⟩ := List.mem_map.1 he
    simp [pR] at ha
    rcases ha with rfl | rfl
    · exact ⟨_, rfl⟩
    · exact ⟨_, rfl⟩
noncomputable def digO (c : List Int) (g : List VxD) (L : List Int) : List Int := (slotsO c g L).map fun v => v.d
noncomputable def c_n_OrderDigests : Con := ⟨1, 0, true, fun xs hs Fs K => match xs with
  | [.ints c, .sl 4 rows, .ints L] => hs = [] ∧ ∃ g : List VxD, rows = g.map VxD.row ∧ ∃ p0 p1 p2, hasErr Fs p0 p1 p2 ∧ c.length < 2000000 ∧ g.length < 2000000 ∧ (∀ v ∈ g, v.p.length < 2000000) ∧ L.length < 2000000 ∧ ∀ nF : List Fam, K (.own 0) [.iarr (digO c g L)] nF
  | _ => False⟩
noncomputable def c_impl_OrderDigests : Con := ⟨1, 0, false, fun xs hs Fs K => match xs with
  | [.ints c, .sl 4 rows, .ints L] => hs = [] ∧ ∃ g : List VxD, rows = g.map VxD.row ∧ ∃ p0 p1 p2, hasErr Fs p0 p1 p2 ∧ c.length < 2000000 ∧ g.length < 2000000 ∧ (∀ v ∈ g, v.p.length < 2000000) ∧ L.length < 2000000 ∧ K (.own 0) [.iarr (digO c g L)] []
  | _ => False⟩
theorem k_impl_OrderDigests_n : Keeps' Tryz.prog 19 c_n_OrderDigests := by
  refine keeps_of_vc mix TyT_ok (cok_cons k_impl_newWaves Tryz.func52 rfl rfl (cok_cons k_impl_waves_order Tryz.func53 rfl rfl cok_nil)) Tryz.func19 rfl rfl rfl ?_
  intro aargs hs Fs K h
  simp only [c_n_OrderDigests] at h
  split at h
  case h_2 => exact h.elim
  rename_i c rows L
  obtain ⟨rfl, g, rfl, p0, p1, p2, hE, hcl, hg, hp, hL, h⟩ := h
  repeat' (first|((conv=>whnf); (first|refine Exists.intro p0 (Exists.intro p1 (Exists.intro p2 (And.intro (err_app hE) ?_)))|refine appK_nil ?_|refine brK_dec (fun _=>?_) (fun _=>?_)|refine brK_ndec (fun _=>?_) (fun _=>?_)|refine brK_not (fun _=>?_) (fun _=>?_)|refine brK_in (fun _=>?_) (fun _=>?_)|refine And.intro (by first|exact rfl|exact ⟨_,rfl,rfl⟩|exact ⟨rfl,rfl,rfl⟩|exact of_decide_eq_true rfl|exact trivial|assumption|omega|(show (_ ≤ _ ∧ _ ≤ _); omega)|(simp; omega)|exact ⟨by first|omega|(simp; omega),_,rfl,rfl⟩) ?_|refine Quo.l (And.intro (by first|exact rfl|assumption|omega|(simp; omega)) ?_)|refine Quo.r (And.intro (by omega) ?_)|refine Both.mk ?_ ?_|refine Exists.intro _ (And.intro rfl ?_)|refine orow_use (by assumption) ?_|refine fun _=>?_))|exact rfl)
  · rename_i e nF
    rw [digO, slotsO, okO, e] at h
    exact h nF
  rename_i e b nF hG
  have hG : hasG ((Fs ++ []) ++ nF) b g := hG
  rw [List.append_nil] at hG
  have hv := and1 e
  have hL15 := leaders_len (and2 e)
  refine ⟨b, g, p0, p1, p2, rfl, rfl, hv, hg, hp, hG, err_app hE, hL15, ?_⟩
  rw [digO, slotsO, okO, if_pos e] at h
  have hol := ordO_len (g := g) (L := L) (W := outV c g L)
  have hW := out_len15 (c := c) (g := g) hL15
  have hol2 : (outV c g L).length * g.length ≤ 15 * g.length := Nat.mul_le_mul_right _ hW
  rw [ordX_of] at h
  rw [ordR_eq]
  generalize ordO g L (outV c g L) = O at h hol ⊢
  have hOm : (O.map fun p => oRow p.2 p.1).length = O.length := by simp
  have hsp : (O.map (fun p => p.1)).map (fun v => v.d) = O.map fun p => p.1.d := by simp [List.map_map]
  rw [hsp] at h
  repeat' (first|((conv=>whnf); (first|refine Exists.intro p0 (Exists.intro p1 (Exists.intro p2 (And.intro (err_app hE) ?_)))|refine appK_nil ?_|refine brK_dec (fun _=>?_) (fun _=>?_)|refine brK_ndec (fun _=>?_) (fun _=>?_)|refine brK_not (fun _=>?_) (fun _=>?_)|refine brK_in (fun _=>?_) (fun _=>?_)|refine And.intro (by first|exact rfl|exact ⟨_,rfl,rfl⟩|exact ⟨rfl,rfl,rfl⟩|exact of_decide_eq_true rfl|exact trivial|assumption|omega|(show (_ ≤ _ ∧ _ ≤ _); omega)|(simp; omega)|exact ⟨by first|omega|(simp; omega),_,rfl,rfl⟩) ?_|refine Quo.l (And.intro (by first|exact rfl|assumption|omega|(simp; omega)) ?_)|refine Quo.r (And.intro (by omega) ?_)|refine Both.mk ?_ ?_|refine Exists.intro _ (And.intro rfl ?_)|refine orow_use (by assumption) ?_|refine fun _=>?_))|exact rfl)
  refine loop_in (ι := Nat) (fun i => ⟨mkE 0 38 [(7, .own 0), (24, .own 1), (25, I (O.map fun p => oRow p.2 p.1).length), (26, I i)], [.iarr ((O.take i).map fun p => p.1.d), .arr 5 (O.map fun p => oRow p.2 p.1)], Fs, nF⟩) (fun i => i ≤ O.length) (fun i => O.length - i) 0 [0, 2] (Nat.zero_le _) ?_ ?_
  · repeat' (first|((conv=>whnf); (first|refine Exists.intro p0 (Exists.intro p1 (Exists.intro p2 (And.intro (err_app hE) ?_)))|refine appK_nil ?_|refine brK_dec (fun _=>?_) (fun _=>?_)|refine brK_ndec (fun _=>?_) (fun _=>?_)|refine brK_not (fun _=>?_) (fun _=>?_)|refine brK_in (fun _=>?_) (fun _=>?_)|refine And.intro (by first|exact rfl|exact ⟨_,rfl,rfl⟩|exact ⟨rfl,rfl,rfl⟩|exact of_decide_eq_true rfl|exact trivial|assumption|omega|(show (_ ≤ _ ∧ _ ≤ _); omega)|(simp; omega)|exact ⟨by first|omega|(simp; omega),_,rfl,rfl⟩) ?_|refine Quo.l (And.intro (by first|exact rfl|assumption|omega|(simp; omega)) ?_)|refine Quo.r (And.intro (by omega) ?_)|refine Both.mk ?_ ?_|refine Exists.intro _ (And.intro rfl ?_)|refine orow_use (by assumption) ?_|refine fun _=>?_))|exact rfl)
  intro i hi
  dsimp only at hi ⊢
  rcases Nat.lt_or_ge i O.length with hil | hil
  · obtain ⟨p, hpi⟩ : ∃ p, O[i]? = some p := ⟨_, List.getElem?_eq_getElem hil⟩
    have hpi2 : O[((i : Nat) : Int).toNat]? = some p := hpi
    have htl : ((O.take i).map fun p => p.1.d).length = i := by simp; omega
    repeat' (first|((conv=>whnf); (first|refine appK_nil ?_|refine brK_dec (fun _=>?_) (fun _=>?_)|refine brK_ndec (fun _=>?_) (fun _=>?_)|refine brK_not (fun _=>?_) (fun _=>?_)|refine brK_in (fun _=>?_) (fun _=>?_)|refine And.intro (by first|exact rfl|exact (by first|(show (_ + 1) * 8 ≤ 140737488355328; omega)|(show _ + 1 ≤ 9223372036854775807; omega))|exact ⟨_,rfl,rfl⟩|exact ⟨rfl,rfl,rfl⟩|exact of_decide_eq_true rfl|exact trivial|assumption|omega|(show (_ ≤ _ ∧ _ ≤ _); omega)|(simp; omega)|exact ⟨by first|omega|(simp; omega),_,rfl,rfl⟩) ?_|refine Quo.l (And.intro (by first|exact rfl|exact (by first|(show (_ + 1) * 8 ≤ 140737488355328; omega)|(show _ + 1 ≤ 9223372036854775807; omega))|assumption|omega|(simp; omega)) ?_)|refine Quo.r (And.intro (by omega) ?_)|refine Both.mk ?_ ?_|refine Exists.intro _ (And.intro rfl ?_)|refine orow_use (by assumption) ?_|refine fun _=>?_))|exact rfl)
    · have e1 : ((O.take (i + 1)).map fun p => p.1.d) = ((O.take i).map fun p => p.1.d).take ((O.take i).map fun p => p.1.d).length ++ [p.1.d] := by
        rw [List.take_add_one, hpi, List.take_length]
        simp
      refine ⟨i + 1, [0, 1], by omega, by omega, ?_⟩
      repeat' (first|((conv=>whnf); (first|refine brK_dec (fun _=>?_) (fun _=>?_)|refine brK_ndec (fun _=>?_) (fun _=>?_)|refine brK_not (fun _=>?_) (fun _=>?_)|refine brK_in (fun _=>?_) (fun _=>?_)|refine And.intro (by first|exact rfl|exact e1|exact ⟨_,rfl,rfl⟩|exact ⟨rfl,rfl,rfl⟩|exact of_decide_eq_true rfl|exact trivial|assumption|omega|(show (_ ≤ _ ∧ _ ≤ _); omega)|(simp; omega)|exact ⟨by first|omega|(simp; omega),_,rfl,rfl⟩) ?_|refine Quo.l (And.intro (by first|exact rfl|exact e1|assumption|omega|(simp; omega)) ?_)|refine Quo.r (And.intro (by omega) ?_)|refine Both.mk ?_ ?_|refine Exists.intro _ (And.intro rfl ?_)|refine orow_use (by assumption) ?_|refine fun _=>?_))|exact rfl)
    · omega
  · obtain rfl : i = O.length := by omega
    repeat' (first|((conv=>whnf); (first|refine brK_dec (fun _=>?_) (fun _=>?_)|refine brK_ndec (fun _=>?_) (fun _=>?_)|refine brK_not (fun _=>?_) (fun _=>?_)|refine brK_in (fun _=>?_) (fun _=>?_)|refine And.intro (by first|exact rfl|exact ⟨_,rfl,rfl⟩|exact ⟨rfl,rfl,rfl⟩|exact of_decide_eq_true rfl|exact trivial|assumption|omega|(show (_ ≤ _ ∧ _ ≤ _); omega)|(simp; omega)|exact ⟨by first|omega|(simp; omega),_,rfl,rfl⟩) ?_|refine Quo.l (And.intro (by first|exact rfl|assumption|omega|(simp; omega)) ?_)|refine Quo.r (And.intro (by omega) ?_)|refine Both.mk ?_ ?_|refine Exists.intro _ (And.intro rfl ?_)|refine orow_use (by assumption) ?_|refine fun _=>?_))|exact rfl)
    · omega
    rw [List.take_length]
    exact h nF
theorem k_impl_OrderDigests : Keeps' Tryz.prog 19 c_impl_OrderDigests :=
  drop_fams k_impl_OrderDigests_n (Nat.le_refl _) rfl fun xs hs Fs K h => by
    simp only [c_impl_OrderDigests] at h
    split at h
    case h_2 => exact h.elim
    obtain ⟨rfl, g, rfl, p0, p1, p2, hE, hcl, hg, hp, hL, h⟩ := h
    exact ⟨rfl, rfl, g, rfl, p0, p1, p2, hE, hcl, hg, hp, hL, fun nF => ⟨.inr ⟨rfl, _, rfl⟩, h⟩⟩
end Go.Proofs.YtkabnbjlglippaaGreatDoor
