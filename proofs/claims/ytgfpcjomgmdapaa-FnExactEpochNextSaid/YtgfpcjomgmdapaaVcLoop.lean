/-
An abstract state seen through another numbering of its objects, and a state that says less.
No conditions.
-/
import Derived.Test.YtgfpcjomgmdapaaVcCodeS
namespace Go.Vc
variable {P : Program} {E : Entry} {w : World} {ρ : Nat → Nat} {A : FA} {S : FS} {a : Act} {tm n0 : Nat} {σ : List Nat}

def relρ (σ : List Nat) (ρ : Nat → Nat) : Nat → Nat := fun i => ρ (σ.getD i 0)

theorem listH_rel {H : Nat → AO} {i k : Nat} (h : σ[i]? = some k) : listH (relH n0 σ H) i = mapO (lref n0 σ H) (H k) := by
  simp [listH, relH, List.getD, h]
theorem rel_alive {H : Nat → AO} {i : Nat} (h : alive (listH (relH n0 σ H)) i) : ∃ k, σ[i]? = some k ∧ relρ σ ρ i = ρ k ∧ alive H k ∧ listH (relH n0 σ H) i = mapO (lref n0 σ H) (H k) := by
  cases hq : σ[i]? with
  | none => exact absurd (by simp [listH, relH, List.getD, hq]) h
  | some k =>
    have e := listH_rel (n0 := n0) (H := H) hq
    refine ⟨k, rfl, by simp [relρ, List.getD, hq], fun hd => h ?_, e⟩
    rw [e, hd]; rfl

theorem startsB_out (h : startsB σ n0 = true) {i : Nat} (hi : i < n0) : σ[i]? = some i := by
  have := List.all_eq_true.1 h i (by simpa using hi)
  simpa using this

theorem rel_keeps (_h : SatW E S.H S.F w ρ A) : Keeps (ctxOf E S.H w ρ A) (ctxOf E (listH (relH n0 σ S.H)) w (relρ σ ρ) A) := by
  refine ⟨fun b hb => ?_, fun _ _ => rfl, fun _ hb => hb, fun _ _ => rfl, Nat.le_refl _, fun _ _ => rfl⟩
  rcases hb with hb | ⟨h1, h2, h3⟩
  · exact .inl hb
  · refine .inr ⟨h1, h2, fun i hi => ?_⟩
    obtain ⟨k, _, e, ha, _⟩ := rel_alive (ρ := ρ) hi
    rw [e]; exact h3 k ha

theorem rel_ref (h : SatW E S.H S.F w ρ A) (_hnd : σ.Nodup) (_hst : startsB σ n0 = true) (hn : E.n0 = n0) {r : AV} {v : Value} (hr : isRef r = true) (hv : RepV (ctxOf E S.H w ρ A) r v) :
    RepV (ctxOf E (listH (relH n0 σ S.H)) w (relρ σ ρ) A) (lref n0 σ S.H r) v := by
  obtain ⟨k, hk, ha⟩ := RepO.alive_of hr hv
  unfold lref
  rw [hk]
  simp only
  split
  · rename_i j hj
    have hg := idxOf_some hj
    have e := listH_rel (n0 := n0) (H := S.H) hg
    refine hv.reIdx hk (by simp [relρ, List.getD, hg]) (by show (listH (relH n0 σ S.H) j).info = (S.H k).info; rw [e, mapO_info]) (fun cs hcs => ⟨cs.map (mapC (lref n0 σ S.H)), ?_⟩) rfl
    have hcs : S.H k = .cells cs := hcs
    show listH (relH n0 σ S.H) j = _
    rw [e, hcs]; rfl
  · rename_i hq
    split
    · rename_i hkn
      refine roView_rep hk hv (h.obj k) (rel_keeps h) (.inr ⟨?_, (h.place k ha).1, fun i hi => ?_⟩) rfl
      · rcases (h.place k ha).2 with h1 | h1
        · exact h1
        · omega
      · obtain ⟨k', hg, e, ha', _⟩ := rel_alive (ρ := ρ) hi
        rw [e]
        intro he
        have := h.inj k' k ha' ha he
        subst this
        exact List.idxOf?_eq_none_iff.1 hq (List.mem_of_getElem? hg)
    · exact .any v

theorem SatW.relabel (h : SatW E S.H S.F w ρ A) (hnd : σ.Nodup) (hst : startsB σ n0 = true) (hn : E.n0 = n0) : SatW E (listH (relH n0 σ S.H)) S.F w (relρ σ ρ) A := by
  have hsm : ∀ {i k : Nat}, σ[i]? = some k → (i < E.n0 ∨ k < E.n0) → i = k := by
    intro i k hg hor
    rcases hor with h1 | h1
    · rw [startsB_out hst (by omega)] at hg; exact Option.some.inj hg
    · have := startsB_out hst (i := k) (by omega)
      have e1 := idxOf_get hnd hg
      rw [idxOf_get hnd this] at e1
      exact (Option.some.inj e1).symm
  refine { os := h.os, tape := h.tape, output := h.output, size := h.size, frame := h.frame, okB := h.okB, zB := h.zB, place := ?_, inj := ?_, stay := ?_, fix := ?_, grow := h.grow, pins := h.pins, obj := ?_, fl := h.fl, nf := h.nf, A0 := h.A0,
           fam := fun f fam hf => (h.fam f fam hf).move (rel_keeps h) (h.fam_lt hf) }
  · intro i hi
    obtain ⟨k, hg, e, ha, _⟩ := rel_alive (ρ := ρ) hi
    rw [e]
    refine ⟨(h.place k ha).1, (h.place k ha).2.imp id fun h1 => ?_⟩
    have := hsm hg (.inr h1.1)
    subst this
    exact h1
  · intro i j hi hj hij
    obtain ⟨k, hg, e, ha, _⟩ := rel_alive (ρ := ρ) hi
    obtain ⟨k', hg', e', ha', _⟩ := rel_alive (ρ := ρ) hj
    rw [e, e'] at hij
    have := h.inj k k' ha ha' hij
    subst this
    have e1 := idxOf_get hnd hg
    rw [idxOf_get hnd hg'] at e1
    exact (Option.some.inj e1).symm
  · intro i cs hi hcs
    have hal : alive (listH (relH n0 σ S.H)) i := by rw [alive, hcs]; simp
    obtain ⟨k, hg, e, ha, e2⟩ := rel_alive (ρ := ρ) hal
    have := hsm hg (.inl hi)
    subst this
    rw [e]
    rw [e2] at hcs
    cases hH : S.H i with
    | cells cs' => exact h.stay i cs' hi hH
    | dead => rw [hH] at hcs; simp [mapO] at hcs
    | iarr l => rw [hH] at hcs; simp [mapO] at hcs
    | arr sz l => rw [hH] at hcs; simp [mapO] at hcs
  · intro hfx i hi hal
    obtain ⟨k, hg, e, ha, e2⟩ := rel_alive (ρ := ρ) hal
    have := hsm hg (.inl hi)
    subst this
    rw [e]
    exact h.fix hfx i hi ha
  · intro i
    by_cases hal : alive (listH (relH n0 σ S.H)) i
    · obtain ⟨k, hg, e, ha, e2⟩ := rel_alive (ρ := ρ) hal
      rw [e2]
      exact (h.obj k).move (rel_keeps h) _ (fun r v hr hv => rel_ref h hnd hst hn hr hv) (by show w.heap[relρ σ ρ i]? = w.heap[ρ k]?; rw [e])
    · have hd : listH (relH n0 σ S.H) i = .dead := Classical.byContradiction hal
      rw [hd]; trivial

theorem rel_val (h : SatW E S.H S.F w ρ A) (hnd : σ.Nodup) (hst : startsB σ n0 = true) (hn : E.n0 = n0) {x : AV} {v : Value} (hv : RepV (ctxOf E S.H w ρ A) x v) :
    RepV (ctxOf E (listH (relH n0 σ S.H)) w (relρ σ ρ) A) (mapR (lref n0 σ S.H) x) v :=
  hv.move (rel_keeps h) _ fun _ _ hr hv => rel_ref h hnd hst hn hr hv

theorem Sat.relabel (h : Sat E S tm a w ρ A) (hnd : σ.Nodup) (hst : startsB σ n0 = true) (hn : E.n0 = n0) :
    Sat E ⟨fun t => mapR (lref n0 σ S.H) (S.env t), listH (relH n0 σ S.H), S.F⟩ tm a w (relρ σ ρ) A :=
  { h.toSatW.relabel hnd hst hn with env := fun t => rel_val h.toSatW hnd hst hn (h.env t), tsize := h.tsize, defers := h.defers.move (rel_keeps h.toSatW) }

/- A state that says less. -/
theorem leE_cons {x y : AV} {r t : List AV} (h : leE (x :: r) (y :: t)) : leV x y ∧ leE r t := by
  cases x <;> first | exact h | exact ⟨trivial, h⟩
theorem leE_get : ∀ {xs ys : List AV}, leE xs ys → xs.length = ys.length ∧ ∀ (i : Nat) x, xs[i]? = some x → ∃ y, ys[i]? = some y ∧ leV x y
  | [], [], _ => ⟨rfl, fun i x h => by simp at h⟩
  | x :: r, y :: t, h => by
    obtain ⟨h1, h2⟩ := leE_cons h
    obtain ⟨h3, h4⟩ := leE_get h2
    refine ⟨by simp [h3], fun i z hz => ?_⟩
    cases i with
    | zero => simp at hz; subst hz; exact ⟨y, rfl, h1⟩
    | succ i => simpa using h4 i z (by simpa using hz)
  | [], _ :: _, h => h.elim
  | x :: _, [], h => by cases x <;> exact h.elim
theorem leH_get : ∀ {xs ys : List AO}, leH xs ys → xs.length = ys.length ∧ ∀ i, leO (listH xs i) (listH ys i)
  | [], [], _ => ⟨rfl, fun i => by simp [listH, leO]⟩
  | x :: r, y :: t, h => by
    obtain ⟨h1, h2⟩ := h
    obtain ⟨h3, h4⟩ := leH_get h2
    refine ⟨by simp [h3], fun i => ?_⟩
    cases i with
    | zero => exact h1
    | succ i => exact h4 i
  | [], _ :: _, h => h.elim
  | _ :: _, [], h => h.elim

theorem leO_cases {x y : AO} (h : leO x y) : (∃ cs ds, x = .cells cs ∧ y = .cells ds ∧ leE cs ds) ∨ (x = y ∧ ∀ cs, x ≠ .cells cs) := by
  cases x <;> cases y <;> simp only [leO, reduceCtorEq] at h
  case dead.dead => exact .inr ⟨rfl, by simp⟩
  case cells.cells cs ds => exact .inl ⟨_, _, rfl, rfl, h⟩
  case iarr.iarr l l' => subst h; exact .inr ⟨rfl, by simp⟩
  case arr.arr z l z' l' => obtain ⟨rfl, rfl⟩ := h; exact .inr ⟨rfl, by simp⟩

theorem leV_rep {c : Ctx} {x y : AV} {v : Value} (h : leV x y) (hv : RepV c y v) : RepV c x v := by
  unfold leV at h
  split at h
  · exact .any v
  · subst h; cases hv; exact .ints [] _ (.sl0 _ _ _)
  · subst h; cases hv; exact .sl0 _ _ _
  · subst h; exact hv
  · subst h; exact hv
  · obtain ⟨rfl, rfl⟩ := h; exact hv
  · obtain ⟨rfl, rfl⟩ := h; exact hv
  · subst h; exact hv
  · subst h; exact hv

theorem Sat.weaken {S1 : FS} (h : Sat E S tm a w ρ A) (hF : S1.F = S.F) (hE : ∀ t, leV (S1.env t) (S.env t)) (hH : ∀ k, leO (S1.H k) (S.H k)) : Sat E S1 tm a w ρ A := by
  have hal : ∀ k, alive S1.H k ↔ alive S.H k := by
    intro k
    rcases leO_cases (hH k) with ⟨cs, ds, e1, e2, _⟩ | ⟨e, _⟩
    · simp [alive, e1, e2]
    · simp [alive, e]
  have hinfo : ∀ k, (S1.H k).info = (S.H k).info := by
    intro k
    rcases leO_cases (hH k) with ⟨cs, ds, e1, e2, _⟩ | ⟨e, _⟩
    · simp [e1, e2, AO.info]
    · rw [e]
  have kp : Keeps (ctxOf E S.H w ρ A) (ctxOf E S1.H w ρ A) :=
    ⟨fun b hb => hb.imp id fun ⟨h1, h2, h3⟩ => ⟨h1, h2, fun k hk => h3 k ((hal k).1 hk)⟩, fun _ _ => rfl, fun _ h => h, fun _ _ => rfl, Nat.le_refl _, fun _ _ => rfl⟩
  have href : ∀ r v, isRef r = true → RepV (ctxOf E S.H w ρ A) r v → RepV (ctxOf E S1.H w ρ A) r v := by
    intro r v hr hv
    obtain ⟨k, hk, _⟩ := RepO.alive_of hr hv
    refine hv.ref_other hk rfl (hinfo k) (fun cs hcs => ?_) fun vs T fr h => ⟨vs, T, fr, h, Nat.le_refl _⟩
    have hcs : S.H k = .cells cs := hcs
    rcases leO_cases (hH k) with ⟨cs1, ds, e1, e2, _⟩ | ⟨e, hne⟩
    · exact ⟨cs1, e1⟩
    · exact absurd (e.trans hcs) (hne cs)
  refine { os := h.os, tape := h.tape, output := h.output, size := h.size, frame := h.frame, okB := h.okB, zB := h.zB, place := fun k hk => h.place k ((hal k).1 hk), inj := fun k j hk hj => h.inj k j ((hal k).1 hk) ((hal j).1 hj), stay := ?_, fix := fun hfx k hk ha => h.fix hfx k hk ((hal k).1 ha), grow := h.grow, pins := h.pins,
           obj := ?_, fl := hF ▸ h.fl, nf := h.nf, A0 := h.A0, fam := fun f fam hf => (h.fam f fam (hF ▸ hf)).move kp (h.fam_lt (hF ▸ hf)), env := fun t => leV_rep (hE t) ((h.env t).stay kp href), tsize := h.tsize, defers := h.defers.move kp }
  · intro k cs hk hcs
    rcases leO_cases (hH k) with ⟨cs1, ds, e1, e2, _⟩ | ⟨e, hne⟩
    · exact h.stay k ds hk e2
    · exact absurd hcs (hne cs)
  · intro k
    rcases leO_cases (hH k) with ⟨cs1, ds, e1, e2, he⟩ | ⟨e, hne⟩
    · have ho := h.obj k
      rw [e2] at ho
      rw [e1]
      obtain ⟨hl, hg⟩ := leE_get he
      obtain ⟨vs, T, h1, h2, h3, h4⟩ := (ho.stay (c' := ctxOf E S1.H w ρ A) kp href rfl : RepO (ctxOf E S1.H w ρ A) k (.cells ds))
      refine ⟨vs, T, h1, by omega, h3, fun j a v ha hv => ?_⟩
      obtain ⟨y, hy, hle⟩ := hg j a ha
      exact leV_rep hle (h4 j y v hy hv)
    · rw [e]
      exact (h.obj k).stay kp href rfl

theorem LeS_sound {s1 s2 : LS} (h : LeS n0 σ s1 s2) (hn : E.n0 = n0) (hs : SatL E s2 a w ρ A) : SatL E s1 a w (relρ σ ρ) A ∧ n0 ≤ s1.H.length := by
  obtain ⟨h1, h2, h3⟩ := h
  obtain ⟨h3, h4⟩ := leEK_out h3
  obtain ⟨h4, h5, h6⟩ := leHK_out h4
  obtain ⟨hl, hg⟩ := leE_get h3
  obtain ⟨hl', hg'⟩ := leH_get h4
  refine ⟨?_, ?_⟩
  · have hr := Sat.relabel hs (nodupB_out h1) h2 hn
    unfold SatL
    have hlen : s1.env.length = s2.env.length := by simpa using hl
    rw [hlen]
    refine hr.weaken (by simp [LS.toF, h5, h6]) (fun t => ?_) hg'
    show leV (s1.env.getD t .any) (mapR (lref n0 σ (listH s2.H)) (s2.env.getD t .any))
    cases hx : s1.env[t]? with
    | none => simp [List.getD, hx, leV]
    | some x =>
      obtain ⟨y, hy, hle⟩ := hg t x hx
      rw [List.getElem?_map] at hy
      obtain ⟨y0, hy0, rfl⟩ := Option.map_eq_some_iff.1 hy
      simp only [List.getD, hx, hy0, Option.getD_some]
      exact hle
  · rw [hl']
    simp only [relH, List.length_map]
    rcases Nat.eq_zero_or_pos n0 with h0 | h0
    · omega
    · have := (List.getElem?_eq_some_iff.1 (startsB_out h2 (i := n0 - 1) (by omega))).1
      omega
end Go.Vc
