/-
A range over a function: each round is walked as a call that is handed all objects of the caller.
No conditions.
-/
import Derived.Test.YtlhbdhccddadaaaDoorVcCut
import Derived.RangeFuncSeq
namespace Go.Vc
variable {P : Program} {T : TT} {C : CT} {E : Entry} {w : World} {ρ : Nat → Nat} {A : FA} {s : LS} {a : Act} {n0 : Nat} {Q : Exit → Act → World → Prop}

def aliveL (H : List AO) : List Nat := (List.range H.length).filter fun k => isAlive (listH H k)
theorem aliveL_nodup (H : List AO) : (aliveL H).Nodup := List.Pairwise.filter _ List.nodup_range
theorem aliveL_alive {H : List AO} {k : Nat} (hk : k ∈ aliveL H) : alive (listH H) k := isAlive_out (List.mem_filter.1 hk).2
theorem aliveL_mem {H : List AO} {k : Nat} (hk : alive (listH H) k) : k ∈ aliveL H := by
  refine List.mem_filter.2 ⟨?_, ?_⟩
  · rw [List.mem_range]
    exact listH_lt hk
  · revert hk
    unfold alive
    cases listH H k <;> simp [isAlive]

/-- What a round leaves: the objects that came in, and the new ones that are still named. -/
def finR (n0 : Nat) (Fs : List Fam) (s : LS) (K : List AO → List Fam → Prop) : Prop := match s with
  | ⟨_, H, F0, NF⟩ => F0 = Fs ∧ natK (keepOf n0 H (.val undef)) fun kept => natK (List.range n0 ++ kept) fun σ => nodupB σ = true ∧ startsB σ n0 = true ∧ mapOK (fun o => o) (relH n0 σ (listH H)) fun hs => K hs NF
/-- A round's body from the caller's state; 'env': the slots of the round. -/
def roundK (T : TT) (C : CT) (body : Code) (env : List AV) (s : LS) (K : Ex → LS → Prop) : Prop :=
  natK (aliveL s.H) fun ρc => mapK (mapR (argView ρc [] (listH s.H))) env fun env => mapOK (fun o => o) (calleeH ρc [] (listH s.H)) fun H =>
    vc T C ρc.length body ⟨env, H, s.F0 ++ s.NF, []⟩ fun e s1 => finR ρc.length (s.F0 ++ s.NF) s1 fun hs nF => retK s none ρc [] (.val undef) hs nF (K e)

/-- A block outside the objects: it stays so. -/
def Apart (E : Entry) (H : Nat → AO) (w : World) (ρ : Nat → Nat) (b : Nat) (o : Obj) : Prop := okOf E H w ρ b ∧ E.w0.heap.size ≤ b ∧ w.heap[b]? = some o

def roundOut (E : Entry) (a : Act) (H0 : List AO) (ρ : Nat → Nat) (L : List (Nat × Obj)) (K : Ex → LS → Prop) : Exit → Act → World → Prop := fun e _ w' => ∃ x, e = Ex.to x ∧ ∃ s', K x s' ∧ E.n0 ≤ s'.H.length ∧ ∃ ρ' A', SatL E s' a w' ρ' A' ∧ (∀ p ∈ L, Apart E (listH s'.H) w' ρ' p.1 p.2) ∧ ∀ k cs, alive (listH H0) k → listH s'.H k = .cells cs → ρ' k = ρ k

theorem round_in (hmix : P.follows .mixedOrders = true) (hT : TOk P T) (hC : COk P C) (hfx : C.fx = false) (hs : SatL E s a w ρ A) (hE : E.At n0 C) (hle : E.n0 ≤ s.H.length) {body : Code} (hnd : noDef body = true) {l : Nat} {env : List AV} {a1 : Act} {L : List (Nat × Obj)}
    (hL : ∀ p ∈ L, Apart E (listH s.H) w ρ p.1 p.2)
    (h1 : ∀ t, RepV (ctxOf E s.toF.H w ρ A) (env.getD t .any) (a1.tmps.getD t undef)) (h2 : a1.tmps.size = env.length) (h3 : a1.defers = []) {K : Ex → LS → Prop}
    (h : roundK T C body env s K) : body.wpIn (FR (some l)) 0 P (roundOut E a s.H ρ L K) a1 w := by
  unfold roundK at h
  have h := mapOK_out (mapK_out (natK_out h))
  rw [List.map_id'] at h
  generalize hρc : aliveL s.H = ρc at h
  have hnodup : ρc.Nodup := hρc ▸ aliveL_nodup s.H
  have hal : ∀ k ∈ ρc, alive (listH s.H) k := fun k hk => aliveL_alive (hρc ▸ hk)
  have hmem : ∀ k, alive (listH s.H) k → k ∈ ρc := fun k hk => hρc ▸ aliveL_mem hk
  have hdis : ∀ k ∈ ([] : List Nat), k ∉ ρc := by simp
  have hsat := callee_sat (vs := []) (fx := false) hs.toSatW hnodup hal hdis
  let E1 : Entry := { calleeE E s.toF w ρ A ρc [] false with pins := L }
  have hpins : ∀ p ∈ E1.pins, E1.ok0 p.1 ∧ w.heap[p.1]? = some p.2 := fun p hp => ⟨.inl (hL p hp).1, (hL p hp).2.2⟩
  have hsatW : SatW E1 (listH (calleeH ρc [] (listH s.H))) (s.F0 ++ s.NF) w (fun i => ρ (ρc.getD i 0)) A := { hsat with pins := hpins }
  have hs1 : SatL E1 ⟨env.map (mapR (argView ρc [] (listH s.H))), calleeH ρc [] (listH s.H), s.F0 ++ s.NF, []⟩ a1 w (fun i => ρ (ρc.getD i 0)) A := by
    refine { (by simpa [LS.toF] using hsatW : SatW E1 (listH (calleeH ρc [] (listH s.H))) ((s.F0 ++ s.NF) ++ []) w (fun i => ρ (ρc.getD i 0)) A) with env := fun t => ?_, tsize := by simp [h2], defers := by rw [h3]; exact .nil }
    show RepV _ ((env.map (mapR (argView ρc [] (listH s.H)))).getD t .any) _
    have hr := (h1 t).move (callee_keeps (ρc := ρc) (vs := []) (fx := false)) (argView ρc [] s.toF.H) (fun r v hr hv => callee_ref hs.toSatW hr hv)
    have e : (env.map (mapR (argView ρc [] (listH s.H)))).getD t .any = mapR (argView ρc [] (listH s.H)) (env.getD t .any) := by
      have := congrFun (env_map (f := argView ρc [] (listH s.H)) (by rfl) env) t
      exact this
    rw [e]
    exact hr
  have hn1 : E1.n0 = ρc.length := rfl
  refine wpIn_mono (vc_in (some l) hmix hT hC (E := E1) (n0 := ρc.length) ⟨rfl, fun h => by cases h⟩ body _ a1 w _ A _ (.inr hnd) (by rw [hn1]; simp [calleeH]) hs1 h) ?_
  have fin : ∀ (x : Ex) (s1 : LS) (a' : Act) (w' : World) (ρ1 : Nat → Nat) (A1 : FA), (finR ρc.length (s.F0 ++ s.NF) s1 fun hs nF => retK s none ρc [] (.val undef) hs nF (K x)) → SatL E1 s1 a' w' ρ1 A1 →
      ∃ s', K x s' ∧ E.n0 ≤ s'.H.length ∧ ∃ ρ' A', SatL E s' a w' ρ' A' ∧ (∀ p ∈ L, Apart E (listH s'.H) w' ρ' p.1 p.2) ∧ ∀ k cs, alive (listH s.H) k → listH s'.H k = .cells cs → ρ' k = ρ k := by
    intro x s1 a' w' ρ1 A1 hf hs'
    obtain ⟨env1, H1, F1, NF1⟩ := s1
    unfold finR at hf
    obtain ⟨rfl, hf⟩ := hf
    obtain ⟨g1, g2, hf⟩ := natK_out (natK_out hf)
    have hf := mapOK_out hf
    rw [List.map_id'] at hf
    have hnd' := nodupB_out g1
    have hr : SatW E1 (listH (relH ρc.length (List.range ρc.length ++ keepOf ρc.length H1 (.val undef)) (listH H1))) (s.F0 ++ s.NF ++ NF1) w' _ A1 := hs'.toSatW.relabel hnd' g2 rfl
    have hl : ρc.length ≤ (relH ρc.length (List.range ρc.length ++ keepOf ρc.length H1 (.val undef)) (listH H1)).length := by simp [relH]
    generalize relH ρc.length (List.range ρc.length ++ keepOf ρc.length H1 (.val undef)) (listH H1) = hs2 at hr hf hl
    generalize relρ (List.range ρc.length ++ keepOf ρc.length H1 (.val undef)) ρ1 = ρ2 at hr
    have hr' : SatW (calleeE E s.toF w ρ A ρc [] false) (listH hs2) (s.toF.F ++ NF1) w' ρ2 A1 := { hr with pins := fun p hp => by simp [calleeE] at hp }
    obtain ⟨s', hK, q1, q2, q3⟩ := retK_out hal hf
    obtain ⟨hsat', -⟩ := Sat.ret (n := s.H.length) (cnt := hs2.length - ρc.length) (al := true) (frz := []) (r := .val undef) (v := undef) hs hnodup hal hdis hr' hl hle (by omega) (fun k hk _ => listH_dead hk) rfl
      (fun _ k hk => by simp at hk) (fun e => by cases e) (fun e => by have := hE.2 e; rw [hfx] at this; cases this) (.val _)
    refine ⟨s', hK, Nat.le_trans hle q3, retρ ρc ρ s.H.length hs2 ρ2, A1, ?_, fun p hp => ?_, fun k cs hk hcs => ?_⟩
    · unfold SatL
      rw [q1, q2]
      exact hsat'.put none (.val undef)
    · obtain ⟨g3, g4, g5⟩ := hL p hp
      have hb : p.1 < w.heap.size := (Array.getElem?_eq_some_iff.1 g5).1
      have hsz : w.heap.size ≤ w'.heap.size := hr'.size
      have hH : listH s'.H = retH ρc [] (listH s.H) s.H.length hs2 := congrArg FS.H q1
      refine ⟨.inr ⟨g4, by omega, fun k hk => ?_⟩, g4, (hr.pins p hp).2⟩
      rw [hH] at hk
      rcases ret_src (S := s.toF) (ρ := ρ) (ρ' := ρ2) hk with ⟨i, hi, e1, _⟩ | ⟨hi, hk', _⟩
      · rw [e1]
        rcases (hr'.place i hi).2 with h4 | ⟨h4, h5⟩
        · have h4 : w.heap.size ≤ ρ2 i := h4
          omega
        · have h5 : ρ2 i = ρ (ρc.getD i 0) := h5
          have h4 : i < ρc.length := h4
          rw [h5]
          refine hs.toSatW.ok_ne g3 (hal _ ?_)
          have : ρc.getD i 0 = ρc[i] := by simp [List.getD, h4]
          rw [this]; exact List.getElem_mem h4
      · exact absurd (hmem k hi) hk'
    · have hH : listH s'.H = retH ρc [] (listH s.H) s.H.length hs2 := congrArg FS.H q1
      rw [hH] at hcs
      obtain ⟨i, hq⟩ := idxOf_mem (hmem k hk)
      have hg := idxOf_some hq
      have hi := (List.getElem?_eq_some_iff.1 hg).1
      have e1 : ρc.getD i 0 = k := by simp [List.getD, hg]
      unfold retH at hcs
      rw [hq] at hcs
      simp only at hcs
      show retρ ρc ρ s.H.length hs2 ρ2 k = ρ k
      unfold retρ
      rw [hq]
      simp only
      cases hx : listH hs2 i with
      | cells cs' =>
        have := (hr'.stay i cs' hi hx).2
        have this : ρ2 i = ρ (ρc.getD i 0) := this
        rw [this, e1]
      | dead => rw [hx] at hcs; simp [mapO] at hcs
      | iarr l => rw [hx] at hcs; simp [mapO] at hcs
      | arr sz l => rw [hx] at hcs; simp [mapO] at hcs
  intro e a' w' hq
  cases e with
  | normal => obtain ⟨s1, hf, _, ρ1, A1, hs'⟩ := hq; exact ⟨.normal, rfl, fin _ s1 a' w' ρ1 A1 hf hs'⟩
  | exit i => obtain ⟨s1, hf, _, ρ1, A1, hs'⟩ := hq; exact ⟨.exit i, rfl, fin _ s1 a' w' ρ1 A1 hf hs'⟩
  | ret => obtain ⟨s1, hf, _, ρ1, A1, hs'⟩ := hq; exact ⟨.ret, rfl, fin _ s1 a' w' ρ1 A1 hf hs'⟩
  | _ => exact hq.elim

/-- The assignments to the loop's variables: slots alone. -/
def asgK (T : TT) : List Oper → LS → (LS → Prop) → Prop
  | [], s, K => K s
  | o :: r, s, K => o.guard = none ∧ match o.op with
    | .assign _ | .move _ => valA T (listH s.H) (s.F0 ++ s.NF) o.op (o.op.operands.toList.map s.ev) fun x => putK s o.dst x fun s => asgK T r s K
    | _ => False
theorem asg_in (hT : TOk P T) {r : Option Nat} {ops : Array Oper} {X : Act → World → Prop} {K : LS → Prop} :
    ∀ (l : List Oper) (s : LS) (a : Act), SatL E s a w ρ A → asgK T l s K → (∀ s' a', K s' → s'.H = s.H → s'.F0 ++ s'.NF = s.F0 ++ s.NF → SatL E s' a' w ρ A → a'.defers = a.defers → X a' w) →
      wpListIn (FR r) 0 P ops (Exit.then X fun _ _ _ => False) l a w
  | [], s, a, hs, h, hX => hX s a h rfl rfl hs rfl
  | o :: t, s, a, hs, h, hX => by
    obtain ⟨hg, h⟩ := h
    unfold wpListIn
    rw [if_pos (by simp [Region.wanted, hg])]
    have key : (∀ c, o.op ≠ .defer c) → (valA T (listH s.H) (s.F0 ++ s.NF) o.op (o.op.operands.toList.map s.ev) fun x => putK s o.dst x fun s => asgK T t s K) → Oper.wpIn (FR r) 0 P o a w (wpListIn (FR r) 0 P ops (Exit.then X fun _ _ _ => False) t) (Exit.then X fun _ _ _ => False) := by
      intro hd h
      obtain ⟨v, x, hK, hr, hrun⟩ := valA_sound hs.toSatW hT (ev_rep hs) h
      refine oper_in (.inr hd) ?_
      unfold Oper.wp
      rw [hrun w ag_self]
      obtain ⟨s', hK', h1, h2, h3⟩ := putK_out hK
      have hs' : SatL E s' (a.put o.dst v) w ρ A := by
        unfold SatL
        rw [h1, h2]
        exact Sat.put hs o.dst hr
      have hF : s'.F0 ++ s'.NF = s.F0 ++ s.NF := congrArg FS.F h1
      refine asg_in hT t s' _ hs' hK' fun s'' a'' g1 g2 g3 g4 g5 => hX s'' a'' g1 (g2.trans h3) (g3.trans hF) g4 (g5.trans ?_)
      cases o.dst <;> simp [Act.put]
    split at h
    · rename_i hop; exact key (by rw [hop]; simp) h
    · rename_i hop; exact key (by rw [hop]; simp) h
    · exact h.elim
end Go.Vc
namespace Go.Vc
variable {P : Program} {T : TT} {C : CT} {E : Entry} {w : World} {ρ : Nat → Nat} {A : FA} {s : LS} {a : Act} {n0 : Nat} {Q : Exit → Act → World → Prop}

theorem MarkOk.other {lo : Nat} {H : Nat → AO} {ds : List Deferred} (h : MarkOk lo (ctxOf E H w ρ A) ds) {l : Nat} (hl : ∀ x, w.heap[l]? ≠ some (.deferred x)) (o : Obj) : MarkOk lo (ctxOf E H (w.putObj l o) ρ A) ds := by
  refine ⟨h.1, fun d hd => ?_⟩
  obtain ⟨D, h1, h2, h3, h4⟩ := h.2 d hd
  have h4 : w.heap[D]? = some (.deferred (some [])) := h4
  have hne : D ≠ l := by rintro rfl; exact hl _ h4
  exact ⟨D, h1, h2, h3.imp id fun ⟨g1, g2, g3⟩ => ⟨g1, by rw [World.putObj_size]; exact g2, g3⟩, (World.putObj_heap_other hne).trans h4⟩

/-- The loop's record is turned. -/
theorem turnLoop (h : SatL E s a w ρ A) {l : Nat} {r : Go.Loop} (hl : Apart E (listH s.H) w ρ l (.loop r)) (r' : Go.Loop) :
    SatL E s a (w.putObj l (.loop r')) ρ A ∧ Apart E (listH s.H) (w.putObj l (.loop r')) ρ l (.loop r') ∧ ∀ D o, D ≠ l → Apart E (listH s.H) w ρ D o → Apart E (listH s.H) (w.putObj l (.loop r')) ρ D o := by
  have hlt : l < w.heap.size := (Array.getElem?_eq_some_iff.1 hl.2.2).1
  have hok : ∀ b, okOf E (listH s.H) w ρ b → okOf E (listH s.H) (w.putObj l (.loop r')) ρ b := fun b hb => hb.imp id fun ⟨g1, g2, g3⟩ => ⟨g1, by rw [World.putObj_size]; exact g2, g3⟩
  refine ⟨?_, ⟨hok _ hl.1, hl.2.1, World.putObj_heap_same hlt⟩, fun D o hne hD => ⟨hok _ hD.1, hD.2.1, (World.putObj_heap_other hne).trans hD.2.2⟩⟩
  exact Sat.turnObj h hl.2.2 rfl hl.2.1 rfl (h.defers.other (fun x e => by rw [hl.2.2] at e; cases e) _)

/-- A block that holds no cells is laid. -/
theorem newObj (h : SatL E s a w ρ A) (o : Obj) : SatL E s a (w.alloc o) ρ A ∧ Apart E (listH s.H) (w.alloc o) ρ w.heap.size o ∧ ∀ D x, Apart E (listH s.H) w ρ D x → Apart E (listH s.H) (w.alloc o) ρ D x := by
  have hok : ∀ b, okOf E (listH s.H) w ρ b → okOf E (listH s.H) (w.alloc o) ρ b := fun b hb => hb.imp id fun ⟨g1, g2, g3⟩ => ⟨g1, by simp; omega, g3⟩
  refine ⟨?_, ⟨.inr ⟨h.size, by simp, fun k hk => Nat.ne_of_lt (h.place k hk).1⟩, h.size, World.alloc_heap_new w o⟩, fun D x hD => ⟨hok _ hD.1, hD.2.1, ?_⟩⟩
  · refine Sat.turn h (w' := w.alloc o) rfl rfl rfl (by simp) (fun b vs T fr hb => ?_) (fun b hb => ?_) rfl ?_
    · rw [heap_alloc_old w _ (Array.getElem?_eq_some_iff.1 hb).1]; exact hb
    · exact heap_alloc_old w _ (Nat.lt_of_lt_of_le hb h.size)
    · refine ⟨h.defers.1, fun d hd => ?_⟩
      obtain ⟨D, h1, h2, h3, h4⟩ := h.defers.2 d hd
      have h4 : w.heap[D]? = some (.deferred (some [])) := h4
      exact ⟨D, h1, h2, hok _ h3, (heap_alloc_old w _ (Array.getElem?_eq_some_iff.1 h4).1).trans h4⟩
  · exact (heap_alloc_old w _ (Array.getElem?_eq_some_iff.1 hD.2.2).1).trans hD.2.2

def setsK : List Nat → List Value → List AV → (List AV → Prop) → Prop
  | p :: ps, x :: xs, env, k => setK env p (.val x) fun env => setsK ps xs env k
  | _, _, env, k => k env
theorem sets_rep {c : Ctx} : ∀ {ps : List Nat} {xs : List Value} {env : List AV} {tmps : Array Value} {k : List AV → Prop}, (∀ t, RepV c (env.getD t .any) (tmps.getD t undef)) → tmps.size = env.length → setsK ps xs env k →
    ∃ env', k env' ∧ (∀ t, RepV c (env'.getD t .any) (((ps.zip xs).foldl (fun (t : Array Value) p => t.setIfInBounds p.1 p.2) tmps).getD t undef)) ∧ ((ps.zip xs).foldl (fun (t : Array Value) p => t.setIfInBounds p.1 p.2) tmps).size = env'.length
  | [], _, env, tmps, k, h, hs, hk => ⟨env, hk, by simpa using h, by simpa using hs⟩
  | _ :: _, [], env, tmps, k, h, hs, hk => ⟨env, hk, by simpa using h, by simpa using hs⟩
  | p :: ps, x :: xs, env, tmps, k, h, hs, hk => by
    have hk := setK_out hk
    rw [List.zip_cons_cons, List.foldl_cons]
    refine sets_rep (env := env.set p (.val x)) (fun t => ?_) (by simp [hs]) hk
    rw [Array.getD_eq_getD_getElem?, Array.getElem?_setIfInBounds]
    simp only [List.getD, List.getElem?_set]
    by_cases e : p = t
    · subst e
      by_cases hlt : p < env.length
      · simp [hs, hlt]; exact .val x
      · simp [hs, hlt]; exact .any _
    · simp only [e, if_false]
      have := h t
      rw [Array.getD_eq_getD_getElem?] at this
      exact this

def Ex.jump : Ex → Option Code
  | .normal => none
  | .exit i => some (.exit i)
  | .ret => some .ret
/-- The record behind a round. -/
def recOf (r : Go.Loop) (x : Ex) : Go.Loop := { r with state := if x.jump.isNone then .ready else .done, pending := x.jump }

theorem yield_in (hmix : P.follows .mixedOrders = true) (hT : TOk P T) (hC : COk P C) (hfx : C.fx = false) (hs : SatL E s a w ρ A) (hE : E.At n0 C) (hle : E.n0 ≤ s.H.length) {body : Code} (hnd : noDef body = true) {l D id : Nat} {ops : Array Oper} {r : Go.Loop}
    (hl : Apart E (listH s.H) w ρ l (.loop r)) (hD : Apart E (listH s.H) w ρ D (.deferred (some []))) (hne : D ≠ l) (hr1 : r.state = .ready) (hr2 : r.tmps = a.tmps) (hr3 : r.assign = .region id ops false) (hr4 : r.body = body)
    {xs : List Value} (hx : xs.length = r.params.size) {K : Ex → LS → Prop} (h : setsK r.params.toList xs s.env fun env => asgK T ops.toList ⟨env, s.H, s.F0, s.NF⟩ fun s1 => roundK T C body s1.env s K) :
    YieldAt Fence.wide 0 P l xs.toArray w fun e w' => ∃ x s', e = .returned (.bool x.jump.isNone) ∧ K x s' ∧ E.n0 ≤ s'.H.length ∧ ∃ ρ' A', SatL E s' a w' ρ' A' ∧ Apart E (listH s'.H) w' ρ' l (.loop (recOf r x)) ∧ Apart E (listH s'.H) w' ρ' D (.deferred (some [])) ∧
      ∀ k cs, alive (listH s.H) k → listH s'.H k = .cells cs → ρ' k = ρ k := by
  subst hr4
  refine ⟨_, _, _, _, run_yield hl.2.2 (by simpa using hx), ?_⟩
  obtain ⟨env, hk, he1, he2⟩ := sets_rep (c := ctxOf E s.toF.H w ρ A) hs.env hs.tsize h
  have hs0 : SatL E ⟨env, s.H, s.F0, s.NF⟩ { tmps := (r.params.zip xs.toArray).foldl (fun tmps (t, a) => tmps.setIfInBounds t a) r.tmps, defers := [] } w ρ A := by
    have e : (r.params.zip xs.toArray).foldl (fun tmps (t, a) => tmps.setIfInBounds t a) r.tmps = (r.params.toList.zip xs).foldl (fun (t : Array Value) p => t.setIfInBounds p.1 p.2) a.tmps := by
      rw [hr2, ← Array.foldl_toList]; simp
    rw [e]
    exact { hs.toSatW with env := he1, tsize := he2, defers := .nil }
  refine roundIn_of_wpIn trivial ?_
  rw [hr3]
  refine wpIn_region_list (asg_in (r := some l) hT _ _ _ hs0 hk fun s1 a1 g1 g2 g3 g4 g5 => ?_)
  obtain ⟨t1, t2, t3⟩ := turnLoop g4 (show Apart E (listH s1.H) w ρ l (.loop r) by rw [g2]; exact hl) { r with state := .busy }
  refine ⟨_, run_beginRound hl.2.2 hr1, ?_⟩
  obtain ⟨u1, u2, u3⟩ := turnLoop hs hl { r with state := .busy }
  have hH : s1.H = s.H := g2
  refine wpIn_mono (round_in hmix hT hC hfx u1 hE hle hnd (l := l) (env := s1.env) (a1 := a1) (L := [(l, .loop { r with state := .busy }), (D, .deferred (some []))]) (fun p hp => ?_) (fun t => ?_) t1.tsize g5 g1) ?_
  · simp only [List.mem_cons, List.not_mem_nil, or_false] at hp
    rcases hp with rfl | rfl
    · exact u2
    · exact u3 D _ hne hD
  · have := t1.env t
    have e : ctxOf E s1.toF.H (w.putObj l (.loop { r with state := .busy })) ρ A = ctxOf E s.toF.H (w.putObj l (.loop { r with state := .busy })) ρ A := by
      show ctxOf E (listH s1.H) _ _ _ = ctxOf E (listH s.H) _ _ _
      rw [hH]
    rw [e] at this
    exact this
  · rintro e a' w' ⟨x, rfl, s', hK, hle', ρ', A', hs', hL, hcell⟩
    have hl' := hL _ (List.mem_cons_self ..)
    have hD' := hL _ (List.mem_cons_of_mem _ (List.mem_cons_self ..))
    obtain ⟨v1, v2, v3⟩ := turnLoop hs' hl' (recOf r x)
    have key : (Instr.endRound l x.jump).run P w' = .ok (.bool x.jump.isNone) (w'.putObj l (.loop (recOf r x))) := run_endRound (r := { r with state := .busy }) x.jump hl'.2.2
    have fin : ∃ v w'', (Instr.endRound l x.jump).run P w' = .ok v w'' ∧ ∃ x s', (Ending.returned v) = .returned (.bool x.jump.isNone) ∧ K x s' ∧ E.n0 ≤ s'.H.length ∧ ∃ ρ' A', SatL E s' a w'' ρ' A' ∧ Apart E (listH s'.H) w'' ρ' l (.loop (recOf r x)) ∧ Apart E (listH s'.H) w'' ρ' D (.deferred (some [])) ∧
        ∀ k cs, alive (listH s.H) k → listH s'.H k = .cells cs → ρ' k = ρ k := ⟨_, _, key, x, s', rfl, hK, hle', ρ', A', v1, v2, v3 D _ hne hD', hcell⟩
    cases x with
    | normal => exact fin
    | exit i => exact fin
    | ret => exact fin
end Go.Vc
namespace Go.Vc
variable {P : Program} {T : TT} {C : CT} {E : Entry} {w : World} {ρ : Nat → Nat} {A : FA} {s : LS} {a : Act} {n0 : Nat} {Q : Exit → Act → World → Prop}

/-- What follows a round: the iterator's variable k holds x now, y next; a form of the caller's choice describes the state. -/
def nextR {ι : Type} (n0 k : Nat) (x y : AV) (mk : ι → LS) (J : ι → Prop) (s : LS) : Prop :=
  listH s.H k = .cells [x] ∧ n0 ≤ s.H.length ∧ match s with
  | ⟨env, H, F0, NF⟩ => setHK H k (.cells [y]) fun H => ∃ g σ, J g ∧ σ[k]? = some k ∧ LeS n0 σ (mk g) ⟨env, H, F0, NF⟩

def rngK {ι : Type} (n0 k : Nat) (x y : AV) (mk : ι → LS) (J : ι → Prop) (K : Ex → LS → Prop) : Ex → LS → Prop := fun e s => match e with
  | .normal => nextR n0 k x y mk J s
  | e => K e s

theorem cell_at (h : SatL E s a w ρ A) {k : Nat} {x : AV} (hk : listH s.H k = .cells [x]) : ∃ v T, w.heap[ρ k]? = some (.cells #[v] T (0, 0)) ∧ v.oneCell' = true ∧ RepV (ctxOf E (listH s.H) w ρ A) x v := by
  have ho := h.obj k
  have ho : RepO (ctxOf E (listH s.H) w ρ A) k (listH s.H k) := ho
  rw [hk] at ho
  obtain ⟨vs, T, h1, h2, h3, h4⟩ := ho
  obtain ⟨v, rfl⟩ : ∃ v, vs = #[v] := by
    obtain ⟨l⟩ := vs
    cases l with
    | nil => simp at h2
    | cons v r => cases r with
      | nil => exact ⟨v, rfl⟩
      | cons _ _ => simp at h2
  exact ⟨v, T, h1, h3 v (by simp), h4 0 x v rfl rfl⟩

theorem range_rule {ι : Type} {g : Operand} {ps : Array Tmp} {id : Nat} {ops : Array Oper} {body : Code} {K : Ex → LS → Prop} (f k : Nat) (c0 : AV) (it : It) (n : Nat) (args : Nat → List Value) (cell : Nat → AV) (mk : Nat → ι → LS) (J : Nat → ι → Prop) (g0 : ι) (σ : List Nat)
    (hfx : C.fx = false) (hg : s.ev g = .clo f k) (hit : C.it f = some it) (hi : it c0 n args cell) (hnd : noDef body = true) (hps : ∀ i, (args i).length = ps.size)
    (h0 : J 0 g0) (hσ : σ[k]? = some k) (hL : LeS n0 σ (mk 0 g0) s) (hlen : ∀ i g, J i g → n0 ≤ (mk i g).H.length) (hcell : ∀ i g, J i g → listH (mk i g).H k = .cells [cell i])
    (hround : ∀ i g, i < n → J i g → forceS (mk i g) fun s => setsK ps.toList (args i) s.env fun env => asgK T ops.toList ⟨env, s.H, s.F0, s.NF⟩ fun s1 => roundK T C body s1.env s (rngK n0 k (cell i) (cell (i + 1)) (mk (i + 1)) (J (i + 1)) K))
    (hdone : ∀ g, J n g → forceS (mk n g) fun s => K .normal s) : Rng T C n0 g ps (.region id ops false) body s K := by
  refine ⟨fun P Q E a w ρ A hT hC hmix hE hle hs hQ => ?_⟩
  have hn0 := hE.1
  obtain ⟨hent, hitc⟩ := hC.2 f it hit
  obtain ⟨_, hIt⟩ := hitc c0 n args cell hi
  have hgv := ev_rep hs g
  rw [hg] at hgv
  obtain ⟨b, hb⟩ : ∃ b, b = ρ k := ⟨_, rfl⟩
  have hav : a.eval g = .func (.func f) #[] #[.pointer (some ⟨b, 0, none⟩)] := by
    revert hgv
    generalize a.eval g = v
    intro hgv
    cases hgv
    rw [hb]
  refine wpIn_rangeFunc ?_
  intro fn _
  obtain ⟨rec, hrec⟩ : ∃ rec : Go.Loop, rec = { state := .ready, pending := none, fn, tmps := a.tmps, params := ps, assign := .region id ops false, body, defers := w.heap.size } := ⟨_, rfl⟩
  obtain ⟨W1, hW1⟩ : ∃ W1, (w.alloc (.deferred (some []))).alloc (.loop rec) = W1 := ⟨_, rfl⟩
  obtain ⟨q1, q2, _⟩ := newObj hs (.deferred (some []))
  obtain ⟨q3, q4, q5⟩ := newObj q1 (.loop rec)
  rw [hW1] at q3 q4 q5
  have q6 := q5 _ _ q2
  rw [World.size_alloc] at q4
  have hDl : w.heap.size ≠ w.heap.size + 1 := by omega
  -- between two rounds
  let Inv : Nat → World → Prop := fun i W => ∃ g ρ A, J i g ∧ SatL E (mk i g) a W ρ A ∧ ρ k = b ∧ Apart E (listH (mk i g).H) W ρ (w.heap.size + 1) (.loop rec) ∧ Apart E (listH (mk i g).H) W ρ w.heap.size (.deferred (some []))
  let Mid : Nat → World → Prop := fun i W => ∃ s' ρ A, nextR n0 k (cell i) (cell (i + 1)) (mk (i + 1)) (J (i + 1)) s' ∧ SatL E s' a W ρ A ∧ ρ k = b ∧ Apart E (listH s'.H) W ρ (w.heap.size + 1) (.loop rec) ∧ Apart E (listH s'.H) W ρ w.heap.size (.deferred (some []))
  let Left : World → Prop := fun W => ∃ x s' ρ A, x ≠ .normal ∧ K x s' ∧ E.n0 ≤ s'.H.length ∧ SatL E s' a W ρ A ∧ Apart E (listH s'.H) W ρ (w.heap.size + 1) (.loop (recOf rec x)) ∧ Apart E (listH s'.H) W ρ w.heap.size (.deferred (some []))
  have hrel : ∀ {s1 s2 : LS} {σ : List Nat} {W : World} {ρ : Nat → Nat} {A : FA}, σ[k]? = some k → LeS n0 σ s1 s2 → SatL E s2 a W ρ A → ρ k = b → (∀ l o, Apart E (listH s2.H) W ρ l o → Apart E (listH s1.H) W (relρ σ ρ) l o) ∧ SatL E s1 a W (relρ σ ρ) A ∧ relρ σ ρ k = b := by
    intro s1 s2 σ W ρ A hσ hL hs hρ
    obtain ⟨h1, _⟩ := LeS_sound hL hn0 hs
    refine ⟨fun l o ⟨g1, g2, g3⟩ => ⟨?_, g2, g3⟩, h1, by simp [relρ, List.getD, hσ, hρ]⟩
    refine .inr ⟨g2, (Array.getElem?_eq_some_iff.1 g3).1, fun j hj => ?_⟩
    obtain ⟨_, _, h5⟩ := hL
    obtain ⟨_, h6⟩ := leEK_out h5
    obtain ⟨h7, _⟩ := leHK_out h6
    obtain ⟨_, hg'⟩ := leH_get h7
    have hj2 : alive (listH (relH n0 σ (listH s2.H))) j := by
      rcases leO_cases (hg' j) with ⟨cs, ds, e1, e2, _⟩ | ⟨e, _⟩
      · rw [alive, e2]; simp
      · rw [alive, ← e]; exact hj
    obtain ⟨k', hk', e, ha, _⟩ := rel_alive (ρ := ρ) hj2
    rw [e]
    exact hs.toSatW.ok_ne g1 ha
  have hInv0 : Inv 0 W1 := by
    obtain ⟨h1, h2, h3⟩ := hrel hσ hL q3 hb.symm
    exact ⟨g0, _, A, h0, h2, h3, h1 _ _ q4, h1 _ _ q6⟩
  have hstep : ∀ {i : Nat} {W W' : World} {s' : LS} {ρ : Nat → Nat} {A : FA}, nextR n0 k (cell i) (cell (i + 1)) (mk (i + 1)) (J (i + 1)) s' → ρ k = b → Apart E (listH s'.H) W ρ (w.heap.size + 1) (.loop rec) → Apart E (listH s'.H) W ρ w.heap.size (.deferred (some [])) →
      (∀ o, Apart E (listH s'.H) W ρ (w.heap.size + 1) o → W'.heap[w.heap.size + 1]? = W.heap[w.heap.size + 1]?) → (W'.heap[w.heap.size]? = W.heap[w.heap.size]?) → W.heap.size ≤ W'.heap.size →
      (∀ H', listH H' = setH (listH s'.H) k (.cells [cell (i + 1)]) → SatL E ⟨s'.env, H', s'.F0, s'.NF⟩ a W' ρ A) → Inv (i + 1) W' := by
    intro i W W' s' ρ A hn hρ hl hD e1 e2 hsz hs'
    obtain ⟨hn1, hn2, hn3⟩ := hn
    obtain ⟨env, H, F0, NF⟩ := s'
    obtain ⟨⟨g, σ, hJ, hσ, hL⟩, hlt⟩ := setHK_out hn3
    have hset := listH_set (H := H) (n := k) (o := .cells [cell (i + 1)]) hlt
    have hS := hs' (H.set k (.cells [cell (i + 1)])) hset
    have hap : ∀ l o, Apart E (listH H) W ρ l o → W'.heap[l]? = W.heap[l]? → Apart E (listH (H.set k (.cells [cell (i + 1)]))) W' ρ l o := by
      rintro l o ⟨g1, g2, g3⟩ he
      refine ⟨.inr ⟨g2, Nat.lt_of_lt_of_le (Array.getElem?_eq_some_iff.1 g3).1 hsz, fun j hj => ?_⟩, g2, he.trans g3⟩
      have hj' : alive (listH H) j := by
        rw [hset] at hj
        by_cases e : j = k
        · subst e
          have : listH H j = .cells [cell i] := hn1
          rw [alive, this]; simp
        · simpa [alive, setH, e] using hj
      rcases g1 with g1 | ⟨_, _, g1⟩
      · exact hS.toSatW.ok_ne (.inl g1) hj
      · exact g1 j hj'
    obtain ⟨h1, h2, h3⟩ := hrel hσ hL hS hρ
    exact ⟨g, _, A, hJ, h2, h3, h1 _ _ (hap _ _ hl (e1 _ hl)), h1 _ _ (hap _ _ hD e2)⟩
  have hcall := hIt b (w.heap.size + 1) Inv Mid Left W1 ?_ ?_ ?_ ?_ ?_ hInv0
  · refine ⟨w.heap.size + 1, [{ target := .collected w.heap.size, args := #[] }], W1, { target := .fn (.func f) #[.pointer (some ⟨b, 0, none⟩)], args := #[.func (.yield (w.heap.size + 1)) #[] #[]] }, W1, f,
      #[.func (.yield (w.heap.size + 1)) #[] #[]] ++ #[.pointer (some ⟨b, 0, none⟩)], W1, ?_, ?_, fun _ _ => trivial, ?_, fun h => by simp [Fence.wide] at h, ?_⟩
    · rw [← hW1, hrec]; exact run_enterLoop_outer _ _ _ _ _
    · simp only [resolve, hav]
      simp [go_sem]
    · simp [invoke, go_sem, hent]
    · refine CallsIn.mono (n := 0) hcall ?_
      have hmark : ∀ {s' : LS} {W : World} {ρ : Nat → Nat} {A : FA} {r' : Go.Loop}, SatL E s' a W ρ A → Apart E (listH s'.H) W ρ (w.heap.size + 1) (.loop r') → Apart E (listH s'.H) W ρ w.heap.size (.deferred (some [])) →
          SatL E s' { a with defers := [{ target := .collected w.heap.size, args := #[] }] ++ a.defers } (W.putObj (w.heap.size + 1) (.loop { r' with state := .exhausted })) ρ A := by
        intro s' W ρ A r' hs' hl hD
        obtain ⟨v1, v2, v3⟩ := turnLoop hs' hl { r' with state := .exhausted }
        have v4 := v3 _ _ hDl hD
        refine { v1.toSatW with env := v1.env, tsize := v1.tsize, defers := ⟨?_, fun d hd => ?_⟩ }
        · refine List.nodup_cons.2 ⟨fun hm => ?_, hs'.defers.1⟩
          obtain ⟨D', e, _, _, hD'⟩ := hs.defers.2 _ hm
          cases e
          have := (Array.getElem?_eq_some_iff.1 hD').1
          exact absurd this (Nat.lt_irrefl _)
        · rcases List.mem_cons.1 hd with rfl | hd
          · exact ⟨w.heap.size, rfl, v4.2.1, v4.1, v4.2.2⟩
          · exact v1.defers.2 d hd
      rintro e W ⟨⟨v, rfl⟩, (⟨g, ρ', A', hJ, hs', hρ', hl, hD⟩ | ⟨x, s', ρ', A', hx, hK, hle', hs', hl, hD⟩)⟩
      · have hend := run_endLoop (P := P) hl.2.2 (by rw [hrec]; simp)
        have hpn : rec.pending = none := by rw [hrec]
        have hq := hQ .normal (mk n g) _ _ ρ' A' (forceS_out (hdone g hJ)) (by rw [hn0]; exact hlen n g hJ) (hmark hs' hl hD)
        refine ⟨rec.pending, _, hend, ?_⟩
        generalize rec.pending = j at hpn hq ⊢
        subst hpn
        exact hq
      · have hend := run_endLoop (P := P) hl.2.2 (by unfold recOf; split <;> simp)
        have hq := hQ x s' _ _ ρ' A' hK hle' (hmark hs' hl hD)
        cases x with
        | normal => exact absurd rfl hx
        | exit i => exact ⟨some (.exit i), _, hend, wpIn_exit hq⟩
        | ret => exact ⟨some .ret, _, hend, wpIn_ret hq⟩
  · rintro i W ⟨g, ρ', A', hJ, hs', hρ', hl, hD⟩
    obtain ⟨v, T, h1, h2, h3⟩ := cell_at hs' (hcell i g hJ)
    exact ⟨_, rfl, v, T, by rw [← hρ']; exact h1, h2, h3⟩
  · rintro i W _ ⟨s', ρ', A', hn, hs', hρ', hl, hD⟩
    obtain ⟨v, T, h1, h2, h3⟩ := cell_at hs' hn.1
    exact ⟨_, rfl, v, T, by rw [← hρ']; exact h1, h2, h3⟩
  · rintro i W hin ⟨g, ρ', A', hJ, hs', hρ', hl, hD⟩
    have hrd := forceS_out (hround i g hin hJ)
    have hy := yield_in hmix hT hC hfx hs' hE (by rw [hn0]; exact hlen i g hJ) hnd hl hD hDl (by rw [hrec]) (by rw [hrec]) (by rw [hrec]) (by rw [hrec]) (body := body) (id := id) (ops := ops) (xs := args i) (by rw [hrec]; exact hps i) (K := rngK n0 k (cell i) (cell (i + 1)) (mk (i + 1)) (J (i + 1)) K) (by rw [hrec]; exact hrd)
    obtain ⟨fn', tmps', as', bd', y1, y2⟩ := hy
    refine ⟨fn', tmps', as', bd', y1, y2.mono ?_⟩
    rintro e W' ⟨x, s', rfl, hK, hle', ρ2, A2, hs2, hl2, hD2, hc2⟩
    cases x with
    | normal =>
      refine .inl ⟨rfl, s', ρ2, A2, hK, hs2, ?_, ?_, hD2⟩
      · rw [hc2 k _ (by rw [alive, hcell i g hJ]; simp) hK.1]; exact hρ'
      · have : recOf rec .normal = rec := by rw [hrec]; rfl
        rw [this] at hl2
        exact hl2
    | exit j => exact .inr ⟨rfl, .exit j, s', ρ2, A2, by simp, hK, hle', hs2, hl2, hD2⟩
    | ret => exact .inr ⟨rfl, .ret, s', ρ2, A2, by simp, hK, hle', hs2, hl2, hD2⟩
  · rintro i W u v T hin ⟨s', ρ', A', hn, hs', hρ', hl, hD⟩ hbl h1v hrep
    have hal : alive (listH s'.H) k := by rw [alive, hn.1]; simp
    have hbl' : W.heap[ρ' k]? = some (.cells #[u] T (0, 0)) := by rw [hρ']; exact hbl
    have hw := hs'.write (k := k) hal (o := .cells [cell (i + 1)]) (by show _ = (listH s'.H k).info; rw [hn.1]; rfl) (fun _ _ => ⟨_, rfl⟩) hbl' (vs' := #[v]) (Nat.le_refl _) (fun c _ hb' => ⟨#[v], T, hb', rfl, by simpa using h1v, fun j x y hx hy => by
      cases j with
      | zero => simp at hx hy; subst hx hy; exact hrep c
      | succ j => simp at hx⟩)
    rw [setρ_self, hρ'] at hw
    have hnb : ∀ l o, o.isCells = false → Apart E (listH s'.H) W ρ' l o → (W.setRow b #[v]).heap[l]? = W.heap[l]? := by
      rintro l o ho ⟨_, _, g3⟩
      refine setRow_other W _ _ _ ?_
      rintro rfl
      rw [hbl] at g3
      cases g3
      simp [Obj.isCells] at ho
    refine hstep (A := A') hn hρ' hl hD (fun o ho => hnb _ _ rfl hl) (hnb _ _ rfl hD) (by simp) fun H' hH' => ?_
    have e : (⟨s'.env, H', s'.F0, s'.NF⟩ : LS).toF = ⟨s'.toF.env, setH s'.toF.H k (.cells [cell (i + 1)]), s'.toF.F⟩ := by
      simp only [LS.toF, FS.mk.injEq, and_true, true_and]; exact hH'
    unfold SatL
    rw [e]
    exact hw
  · rintro i W hin ⟨s', ρ', A', hn, hs', hρ', hl, hD⟩ he
    refine hstep (A := A') hn hρ' hl hD (fun _ _ => rfl) rfl (Nat.le_refl _) fun H' hH' => ?_
    have hsame : setH (listH s'.H) k (.cells [cell (i + 1)]) = listH s'.H := by
      funext j
      unfold setH
      split
      · rename_i e; subst e; rw [he]; exact hn.1.symm
      · rfl
    rw [hsame] at hH'
    have e : (⟨s'.env, H', s'.F0, s'.NF⟩ : LS).toF = s'.toF := by
      simp only [LS.toF, FS.mk.injEq, and_true, true_and]; exact hH'
    unfold SatL
    rw [e]
    exact hs'
end Go.Vc
