/-
Linked graphs: what 'linkGraph' hands back, as memory that is only read.
No conditions.
-/
import Derived.Test.YtenflffikgfphaaDoorWiD
namespace Go.Proofs.YtenflffikgfphaaDoor
open Go Go.Vc
set_option maxHeartbeats 1000000
set_option maxRecDepth 10000
/-- All objects are given up: they are only read from now on. -/
theorem satw_give {E : Entry} {hs : List AO} {F : List Fam} {w : World} {ρ : Nat → Nat} {A : FA} (h : SatW E (listH hs) F w ρ A) (hn : E.n0 = 0) :
    SatW E (listH []) F w ρ A ∧ Vc.Keeps (ctxOf E (listH hs) w ρ A) (ctxOf E (listH []) w ρ A) ∧ ∀ k, alive (listH hs) k → okOf E (listH []) w ρ (ρ k) := by
  have hd : ∀ k, listH [] k = .dead := fun k => rfl
  have kp : Vc.Keeps (ctxOf E (listH hs) w ρ A) (ctxOf E (listH []) w ρ A) := by
    refine ⟨fun b hb => ?_, fun _ _ => rfl, fun _ hb => hb, fun _ _ => rfl, ⟨Nat.le_refl _, fun _ _ => rfl⟩⟩
    rcases hb with hb | ⟨h1, h2, _⟩
    · exact .inl hb
    · exact .inr ⟨h1, h2, fun k hk => absurd (hd k) hk⟩
  refine ⟨{ os := h.os, tape := h.tape, output := h.output, size := h.size, frame := h.frame, okB := h.okB, zB := h.zB, place := fun k hk => absurd (hd k) hk, inj := fun k _ hk => absurd (hd k) hk, stay := fun k cs hk => by omega,
            fix := fun _ k hk => by omega, grow := h.grow, pins := h.pins, obj := fun k => by rw [hd k]; trivial, fl := h.fl, nf := h.nf, A0 := h.A0, fam := fun f fam hf => (h.fam f fam hf).move kp (h.fam_lt hf) }, kp, fun k hk => ?_⟩
  have hp := h.place k hk
  refine .inr ⟨?_, hp.1, fun j hj => absurd (hd j) hj⟩
  rcases hp.2 with h1 | h1
  · exact h1
  · omega
/-- Families that say no more. -/
def leFam (a b : Fam) : Prop := b.pin = none ∧ a.pin = none ∧ b.objs.length = a.objs.length ∧ ∀ (i : Nat) cs', b.objs[i]? = some cs' → ∃ cs, a.objs[i]? = some cs ∧ ∀ (j : Nat) x', cs'[j]? = some x' → ∃ x, cs[j]? = some x ∧ pureB x' = true ∧ ∀ c v, RepV c x v → RepV c x' v
theorem leFam_rep {c : Ctx} {f : Nat} {a b : Fam} (h : leFam a b) (hr : RepFam c f a) : RepFam c f b := by
  obtain ⟨h1, h2, h3, h4⟩ := h
  refine ⟨fun i cs' hi => ?_, fun i j hi hj => hr.2.1 i j (by omega) (by omega), fun g hg => (by rw [h1] at hg; cases hg), fun _ i cs' hi => ?_⟩
  · obtain ⟨cs, hcs, hx⟩ := h4 i cs' hi
    obtain ⟨hok, vf, hv⟩ := hr.1 i cs hcs
    refine ⟨hok, vf, fun j x' hj => ?_⟩
    obtain ⟨x, hx1, hx2, hx3⟩ := hx j x' hj
    obtain ⟨q1, _, q3, q4⟩ := hv j x hx1
    exact ⟨q1, hx2, q3, hx3 _ _ q4⟩
  · obtain ⟨cs, hcs, _⟩ := h4 i cs' hi
    exact hr.2.2.2 h2 i cs hcs
theorem satw_fams {E : Entry} {H : Nat → AO} {F F' : List Fam} {w : World} {ρ : Nat → Nat} {A : FA} (h : SatW E H F w ρ A) (hl : F'.length = F.length) (hf : ∀ (f : Nat) b, F'[f]? = some b → F[f]? = some b ∨ ∃ a, F[f]? = some a ∧ leFam a b) : SatW E H F' w ρ A :=
  { h with fl := hl.trans h.fl, fam := fun f b hb => (hf f b hb).elim (fun h1 => h.fam f b h1) fun ⟨a, h1, h2⟩ => leFam_rep h2 (h.fam f a h1) }
/-- The cells of vertex i's node; its parents are the families b + j. -/
def nodeC (b : Nat) (g : List VxD) (i : Nat) (v : VxD) : List AV := [I v.r, I v.a, .ints v.p, I v.d, I i, .sl 1 (rpRows b (parI g i))]
def nodeHs (b : Nat) (g : List VxD) : List Fam := (List.range g.length).map fun i => match g[i]? with
  | some v => ⟨none, [nodeC b g i v]⟩
  | none => ⟨none, []⟩
/-- The nodes of a graph are among the families. -/
def hasG (F : List Fam) (b : Nat) (g : List VxD) : Prop := ∀ (i : Nat) v, g[i]? = some v → famOwn F (b + i) 0 (nodeC b g i v)
theorem own_app {F nF : List Fam} {f i : Nat} {cs : List AV} (h : famOwn F f i cs) : famOwn (F ++ nF) f i cs := by
  obtain ⟨fam, h1, h2⟩ := h
  exact ⟨fam, by rw [List.getElem?_append_left (List.getElem?_eq_some_iff.1 h1).1]; exact h1, h2⟩
theorem hasG_app {F nF : List Fam} {b : Nat} {g : List VxD} (h : hasG F b g) : hasG (F ++ nF) b g := fun i v hv => own_app (h i v hv)
theorem at_own {F : List Fam} {f i : Nat} {cs : List AV} (h : famOwn F f i cs) : famAt F f i cs := let ⟨fam, h1, _, h3⟩ := h; ⟨fam, h1, h3⟩
theorem hasG_new {Fs : List Fam} {g : List VxD} : hasG (Fs ++ nodeHs Fs.length g) Fs.length g := by
  intro i v hv
  have hi := (List.getElem?_eq_some_iff.1 hv).1
  refine ⟨⟨none, [nodeC Fs.length g i v]⟩, ?_, rfl, rfl⟩
  rw [List.getElem?_append_right (by omega), Nat.add_sub_cancel_left]
  unfold nodeHs
  rw [List.getElem?_map, List.getElem?_range hi]
  simp [hv]
noncomputable abbrev gcells (c : List Int) (b : Nat) (g : List VxD) : List AV := .ints c :: .sl 1 (rpRows b (List.range g.length)) :: plcs b g
theorem parC_rep {c : Ctx} {b : Nat} {l : List Nat} {v : Value} (h : RepV c (parC b l) v) : RepV c (.sl 1 (rpRows b l)) v := by
  cases l with
  | nil => cases h; exact .sl0 1 _ _
  | cons j l => exact h
theorem node_le {b : Nat} {g : List VxD} (hs : sortedV g) {i : Nat} {v : VxD} (hv : g[i]? = some v) : leFam (nodeF b (g.take i) i v.r v.a v.p v.d) ⟨none, [nodeC b g i v]⟩ := by
  refine ⟨rfl, rfl, rfl, fun k cs' hk => ?_⟩
  cases k with
  | succ k => simp at hk
  | zero =>
    simp only [List.getElem?_cons_zero, Option.some.injEq] at hk
    subst hk
    have e : (v.p.filterMap fun x => findV (g.take i) (v.r - 1) x) = parI g i := by
      unfold parI
      rw [hv]
      congr 1
      funext x
      cases hf : findV g (v.r - 1) x with
      | some j => exact (par_ahead hs hv).2 hf
      | none =>
        cases hf2 : findV (g.take i) (v.r - 1) x with
        | none => rfl
        | some j => rw [(par_ahead hs hv).1 hf2] at hf; cases hf
    refine ⟨_, rfl, fun j x' hj => ?_⟩
    unfold nodeC at hj
    match j, hj with
    | 0, hj => cases hj; exact ⟨_, rfl, rfl, fun _ _ h => h⟩
    | 1, hj => cases hj; exact ⟨_, rfl, rfl, fun _ _ h => h⟩
    | 2, hj => cases hj; exact ⟨_, rfl, rfl, fun _ _ h => h⟩
    | 3, hj => cases hj; exact ⟨_, rfl, rfl, fun _ _ h => h⟩
    | 4, hj => cases hj; exact ⟨_, rfl, rfl, fun _ _ h => h⟩
    | 5, hj =>
      cases hj
      refine ⟨_, rfl, rfl, fun c v h => ?_⟩
      rw [e] at h
      exact parC_rep h
    | j + 6, hj => simp at hj
theorem nodes_le {Fs : List Fam} {b : Nat} {g : List VxD} (hs : sortedV g) (f : Nat) (q : Fam) (h : (Fs ++ nodeHs b g)[f]? = some q) : (Fs ++ nodeFs b g g.length)[f]? = some q ∨ ∃ a, (Fs ++ nodeFs b g g.length)[f]? = some a ∧ leFam a q := by
  by_cases hlt : f < Fs.length
  · rw [List.getElem?_append_left hlt] at h
    exact .inl (by rw [List.getElem?_append_left hlt]; exact h)
  · rw [List.getElem?_append_right (by omega)] at h
    unfold nodeHs at h
    rw [List.getElem?_map] at h
    obtain ⟨i, hi, rfl⟩ := Option.map_eq_some_iff.1 h
    have hlen : f - Fs.length < g.length := by have := (List.getElem?_eq_some_iff.1 hi).1; simpa using this
    rw [List.getElem?_range hlen] at hi
    cases hi
    have hv : g[f - Fs.length]? = some g[f - Fs.length] := List.getElem?_eq_getElem hlen
    refine .inr ⟨nodeG b g (f - Fs.length), ?_, ?_⟩
    · rw [List.getElem?_append_right (by omega)]
      unfold nodeFs
      rw [List.getElem?_map, List.getElem?_range hlen]
      rfl
    · unfold nodeG
      rw [hv]
      exact node_le hs hv
noncomputable def c_impl_linkGraph : Con := ⟨2, 0, true, fun xs hs Fs K => match xs with
  | [.ints c, .sl 4 rows] => hs = [] ∧ ∃ g : List VxD, rows = g.map VxD.row ∧ c.length < 2000000 ∧ g.length < 1000000 ∧ (∀ v ∈ g, v.p.length < 2000000) ∧
      Both (gV c g = false → ∀ f, K (.tup [nilP, B false]) [] f) (gV c g = true → ∀ b nF, hasG (Fs ++ nF) b g → K (.tup [.ro (gcells c b g), B true]) [] nF)
  | _ => False⟩
/-- The pair that is handed back, the graph only read. -/
theorem graph_ro {c c' : Ctx} {cl : List Int} {b : Nat} {g : List VxD} {X : AV} {v : Value} (hk : c.H 0 = .cells (.ints cl :: X :: plcs b g)) (ho : RepO c 0 (c.H 0)) (kp : Vc.Keeps c c') (hw : c'.w = c.w) (hok : c'.ok (c.ρ 0))
    (hX : ∀ v, RepV c X v → RepV c' (.sl 1 (rpRows b (List.range g.length))) v) (h : RepV c (.tup [.ptr 0 0, B true]) v) : RepV c' (.tup [.ro (gcells cl b g), B true]) v := by
  rw [hk] at ho
  obtain ⟨vf, hv⟩ := obj_cells ho 0
  cases h with
  | tup cs vs hl hn h =>
    obtain ⟨u, z, rfl⟩ : ∃ u z, vs = [u, z] := by
      rcases vs with _ | ⟨u, _ | ⟨z, _ | ⟨y, t⟩⟩⟩ <;> simp at hl
      exact ⟨u, z, rfl⟩
    have q0 := h 0 _ u rfl rfl
    have q1 := h 1 _ z rfl rfl
    refine .tup _ [u, z] rfl hn fun i a y ha hy => ?_
    match i, ha, hy with
    | 1, ha, hy => cases ha; cases hy; exact q1.pure_move kp rfl
    | 0, ha, hy =>
      cases ha
      cases hy
      cases q0 with
      | ptr k off cs hk' =>
        refine .ro _ _ _ vf (.inl hok) (fun j a hj => ?_) (fun j a hj => ?_)
        · match j, hj with
          | 0, hj => cases hj; obtain ⟨p1, p2, p3⟩ := hv 0 (.ints cl) rfl; exact ⟨by rw [hw]; exact p1, rfl, p2⟩
          | 1, hj => cases hj; obtain ⟨p1, p2, p3⟩ := hv 1 X rfl; exact ⟨by rw [hw]; exact p1, rfl, p2⟩
          | j + 2, hj =>
            have hj : (plcs b g)[j]? = some a := hj
            obtain ⟨p1, p2, p3⟩ := hv (j + 2) a hj
            exact ⟨by rw [hw]; exact p1, plcs_pure a (List.mem_of_getElem? hj), p2⟩
        · match j, hj with
          | 0, hj => cases hj; obtain ⟨p1, p2, p3⟩ := hv 0 (.ints cl) rfl; exact p3.pure_move kp rfl
          | 1, hj => cases hj; obtain ⟨p1, p2, p3⟩ := hv 1 X rfl; exact hX _ p3
          | j + 2, hj =>
            have hj : (plcs b g)[j]? = some a := hj
            obtain ⟨p1, p2, p3⟩ := hv (j + 2) a hj
            exact p3.pure_move kp (pureA_of_pureB (plcs_pure a (List.mem_of_getElem? hj)))
    | i + 2, ha, hy => simp at ha
theorem k_impl_linkGraph : Keeps' Tryd.prog 35 c_impl_linkGraph := by
  intro E args aargs hs Fs K hc hl hn0 hsat hrep hfx
  simp only [c_impl_linkGraph] at hc
  split at hc
  case h_2 => exact hc.elim
  rename_i c rows
  obtain ⟨rfl, g, rfl, hcl, hg, hp, hno, hyes⟩ := hc
  have hz : E.n0 = 0 := hn0
  refine (k_impl_linkGraph_n E args [.ints c, .sl 4 (g.map VxD.row)] [] Fs (fun r hs nF => (gV c g = false ∧ r = .tup [nilP, B false] ∧ hs = []) ∨ (gV c g = true ∧ r = .tup [.ptr 0 0, B true] ∧ nF = nodeFs Fs.length g g.length ∧
      ((g = [] ∧ hs = [.cells (.ints c :: .val (.slice none 0 0) :: plcs Fs.length g)]) ∨ hs = [.cells (.ints c :: .own 1 :: plcs Fs.length g), .arr 1 (rpRows Fs.length (List.range g.length))])))
    ⟨rfl, g, rfl, hcl, hg, hp, Both.mk (fun q f => .inl ⟨q, rfl, rfl⟩) (fun q => ⟨fun e => ?_, fun e => ?_⟩)⟩ hl hn0 hsat hrep hfx).mono ?_
  · subst e
    exact .inr ⟨q, rfl, rfl, .inl ⟨rfl, rfl⟩⟩
  · exact .inr ⟨q, rfl, rfl, .inr rfl⟩
  rintro e w' ⟨v, r, hs, nF, ρ, A, rfl, hK, hsat', hr, _, hlen, _⟩
  rcases hK with ⟨q, rfl, rfl⟩ | ⟨q, rfl, rfl, hcase⟩
  · exact ⟨v, _, [], nF, ρ, A, rfl, hno q nF, hsat', hr, by simp [hz], by simp, fun h => by cases h⟩
  · have hs := gV_sorted q
    obtain ⟨g1, kp, hok⟩ := satw_give hsat' hz
    have g2 := satw_fams g1 (F' := Fs ++ nodeHs Fs.length g) (by simp [nodeHs, nodeFs]) (nodes_le hs)
    have hr' : RepV (ctxOf E (listH []) w' ρ A) (.tup [.ro (gcells c Fs.length g), B true]) v := by
      rcases hcase with ⟨rfl, e⟩ | e
      · subst e
        exact graph_ro (X := .val (.slice none 0 0)) rfl (hsat'.obj 0) kp rfl (hok 0 (by simp [alive, listH])) (fun v h => by cases h; exact .sl0 1 _ _) hr
      · subst e
        refine graph_ro (X := .own 1) rfl (hsat'.obj 0) kp rfl (hok 0 (by simp [alive, listH])) (fun v h => ?_) hr
        exact roView_rep (k := 1) rfl h (hsat'.obj 1) kp (hok 1 (by simp [alive, listH])) rfl
    exact ⟨v, _, [], nodeHs Fs.length g, ρ, A, rfl, hyes q _ _ hasG_new, g2, hr', by simp [hz], by simp, fun h => by cases h⟩
end Go.Proofs.YtenflffikgfphaaDoor
