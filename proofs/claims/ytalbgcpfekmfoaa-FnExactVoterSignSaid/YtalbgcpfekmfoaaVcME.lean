/-
The condition of a whole body is enough.
From the condition of a body to the contract of its function.
No conditions.
-/
import Derived.Test.YtalbgcpfekmfoaaVcWide
import Derived.RangeFuncOwn
import Derived.RangeFuncLeaves
namespace Go.Vc
variable {P : Program} {T : TT} {C : CT} {E : Entry} {w : World} {ρ : Nat → Nat} {A : FA} {s : LS} {a : Act} {o : Oper} {n0 : Nat} {Q : Exit → Act → World → Prop}

theorem ag_self {H : Nat → AO} {k : Option Nat} : Ag (ctxOf E H w ρ A) k w := ⟨fun _ _ => rfl, fun _ _ => rfl⟩

theorem vcOp_sound (hT : TOk P T) (hC : COk P C) (hn0 : E.At n0 C) (hle : E.n0 ≤ s.H.length) (hs : SatL E s a w ρ A) {pk : List Nat} {K : LS → Prop} (h : vcOp T C n0 pk o s K) : o.wp P a w (Post E s ρ w pk K) Q := by
  have hmem : ∀ {s' : LS} {A : FA}, SatL E s' a w ρ A → E.n0 ≤ s'.H.length → (memA T (listH s'.H) s'.ev s'.H.length o.op fun e => fixP C.fx n0 e.kill (offP pk (tchL e) (effK s' o.dst e K))) → o.wp P a w (Post E s' ρ w pk K) Q :=
    fun hs' hle' h => mem_post hle' (memA_sound hs' hle' (listH_dead (Nat.le_refl _)) hT (ev_rep hs') h (fun e he hfx k hk => by have := (fixP_out he).2 (hn0.2 hfx) k hk; have h0 := hn0.1; omega))
  have haux : (auxA T (listH s.H) s.ev o.op fun x => putK s o.dst x K) → o.wp P a w (Post E s ρ w pk K) Q := by
    intro h
    obtain ⟨v, x, hK, hr, hrun⟩ := auxA_sound hT hs.obj (ev_rep hs) h
    exact value_post hs hle (hrun w) hr hK
  have hval : (valA T (listH s.H) (s.F0 ++ s.NF) o.op (o.op.operands.toList.map s.ev) fun x => putK s o.dst x K) → o.wp P a w (Post E s ρ w pk K) Q := by
    intro h
    obtain ⟨v, x, hK, hr, hrun⟩ := valA_sound hs.toSatW hT (ev_rep hs) h
    exact value_post hs hle (hrun w ag_self) hr hK
  have hfrz : (frzK n0 pk (frzOf s o.op) s fun s => memA T (listH s.H) s.ev s.H.length o.op fun e => fixP C.fx n0 e.kill (offP pk (tchL e) (effK s o.dst e K))) → o.wp P a w (Post E s ρ w pk K) Q := by
    intro h
    obtain ⟨s', A', h1, h2, h3, h4, h5⟩ := frzK_out hn0.1 h hs
    refine wp_mono_next ?_ (hmem h2 (by omega) h1)
    rintro a' w' ⟨s'', g1, g2, ρ', A', g3, g4⟩
    exact ⟨s'', g1, g2, ρ', A', g3, h5.trans g4⟩
  unfold vcOp at h
  split at h
  all_goals first
    | exact h.elim
    | exact hmem hs hle h
    | exact hfrz h
    | exact haux h
    | exact callK_sound hs hC hn0 hle ‹_› rfl h
    | exact hval h
    | skip
  case _ fn fi ca hop =>
    split at h
    case h_2 => exact h.elim
    case h_1 f x hfi hca =>
      split at h
      case h_2 => exact h.elim
      case h_1 k hk =>
        split at h
        case h_2 => exact h.elim
        case h_1 cs hcs =>
          have hr := ev_rep hs x
          rw [hk] at hr
          have hfi : fi = #[] := by apply Array.ext'; simpa using hfi
          have hca : ca = #[x] := by apply Array.ext'; simpa using hca
          subst hfi hca
          generalize hv : a.eval x = v at hr
          cases hr with
          | ptr _ _ cs' hk' =>
            exact value_post (v := .func (.func f) #[] #[.pointer (some ⟨ρ k, 0, none⟩)]) hs hle (by simp [execOp, hop, Instr.makeFunc, hv]) (.clo f k cs' hk') h
  case _ t args ats hop =>
    split at h
    case h_2 => exact h.elim
    case h_1 f x y heq =>
      obtain ⟨rfl, rfl, h⟩ := h
      refine callK_sound hs hC hn0 hle hop ?_ h
      have hr := hs.env t
      have heq : s.toF.env t = .val (.func (.func f) #[] #[]) := heq
      rw [heq] at hr
      show a.tmps.getD t undef = _
      revert hr
      generalize a.tmps.getD t undef = v
      intro hr
      cases hr
      rfl

  case _ rc nm args ats hop =>
    split at h
    case h_2 => exact h.elim
    case h_1 t k off heq =>
      split at h
      case h_3 => exact h.elim
      case h_1 f e hm => exact invoke_sound hT hs hC hn0 hle hop heq hm h
      case h_2 f e hm => exact invoke_sound hT hs hC hn0 hle hop heq hm h

/-- What a guard says of the abstract state, and of the run. -/
theorem vcG_cases {ops : Array Oper} {X : LS → (LS → Prop) → Prop} {K : LS → Prop} (hs : SatL E s a w ρ A) (h : vcG ops o X s K) :
    (Region.wanted o (yielded ops a.tmps) = true ∧ X s K) ∨ (Region.wanted o (yielded ops a.tmps) = false ∧ putK s o.dst (.val (.tuple #[])) K) := by
  unfold vcG at h
  split at h
  · rename_i hg
    exact .inl ⟨by simp [Region.wanted, hg], h⟩
  · rename_i j want hg
    split at h
    · exact h.elim
    · rename_i d hd
      split at h
      · rename_i b hb
        have hr := hs.env d
        have hb' : s.toF.env d = .val (.bool b) := hb
        rw [hb'] at hr
        have hv : a.tmps.getD d undef = .bool b := by
          revert hr
          generalize a.tmps.getD d undef = v
          intro hr
          cases hr; rfl
        have hv' : a.tmps[d]? = some (.bool b) := by
          rw [Array.getD_eq_getD_getElem?] at hv
          cases hx : a.tmps[d]? with
          | none => rw [hx] at hv; simp [undef] at hv
          | some x => rw [hx] at hv; simpa using hv
        have hy : yielded ops a.tmps j = some b := by simp [yielded, hd, hv']
        have hw : Region.wanted o (yielded ops a.tmps) = decide (b = want) := by
          simp only [Region.wanted, hg, hy]
          by_cases e : b = want <;> simp [e]
        have h := brK_out h
        rw [hw]
        cases b with
        | true =>
          have h1 := setB_out hb (h.1 rfl)
          cases want with
          | true => exact .inl ⟨rfl, h1⟩
          | false => exact .inr ⟨rfl, h1⟩
        | false =>
          have h1 := setB_out hb (h.2 rfl)
          cases want with
          | true => exact .inr ⟨rfl, h1⟩
          | false => exact .inl ⟨rfl, h1⟩
      · rename_i us hb
        have hr := hs.env d
        have hb' : s.toF.env d = .val (.tuple us) := hb
        rw [hb'] at hr
        have hv : a.tmps.getD d undef = .tuple us := by
          revert hr
          generalize a.tmps.getD d undef = v
          intro hr
          cases hr; rfl
        have hy : yielded ops a.tmps j = none := by
          simp only [yielded, hd, Option.bind_some]
          rw [Array.getD_eq_getD_getElem?] at hv
          cases hx : a.tmps[d]? with
          | none => rfl
          | some x =>
            rw [hx] at hv
            have hv : x = .tuple us := hv
            subst hv
            rfl
        exact .inr ⟨by simp [Region.wanted, hg, hy], h⟩
      · exact h.elim

theorem vcOps_sound (hT : TOk P T) (hC : COk P C) (hn0 : E.At n0 C) {ops : Array Oper} {K : LS → Prop} (hQ : ∀ s' a' w' ρ' A', K s' → E.n0 ≤ s'.H.length → SatL E s' a' w' ρ' A' → Q .normal a' w') :
    ∀ (l : List Oper) (s : LS) (a : Act) (w : World) (ρ : Nat → Nat) (A : FA), E.n0 ≤ s.H.length → SatL E s a w ρ A → vcOps T C n0 ops l s K → wpList P ops Q l a w := by
  intro l
  induction l with
  | nil => intro s a w ρ A hle hs h; exact hQ s a w ρ A h hle hs
  | cons o r ih =>
    intro s a w ρ A hle hs h
    unfold wpList
    unfold vcOps at h
    rcases vcG_cases hs h with ⟨hw, h⟩ | ⟨hw, h⟩
    · rw [if_pos hw]
      refine .inl (Oper.wp_mono (K := Post E s ρ w [] fun s => vcOps T C n0 ops r s K) ?_ (vcOp_sound hT hC hn0 hle hs h))
      rintro a' w' ⟨s', h1, h2, ρ', A', h3, _⟩
      exact ih s' a' w' ρ' A' h2 h3 h1
    · rw [if_neg (by rw [hw]; simp)]
      obtain ⟨s', h1, h2, h3, h4⟩ := putK_out h
      refine ih s' _ w ρ A (by rw [h4]; exact hle) ?_ h1
      unfold SatL
      rw [h2, h3]
      exact Sat.put hs o.dst (.val _)

/-- What the ways out of a piece of code ask. -/
def Out (E : Entry) (K : Ex → LS → Prop) : Exit → Act → World → Prop := fun e a w => match e with
  | .normal => ∃ s, K .normal s ∧ E.n0 ≤ s.H.length ∧ ∃ ρ A, SatL E s a w ρ A
  | .exit i => ∃ s, K (.exit i) s ∧ E.n0 ≤ s.H.length ∧ ∃ ρ A, SatL E s a w ρ A
  | .ret => ∃ s, K .ret s ∧ E.n0 ≤ s.H.length ∧ ∃ ρ A, SatL E s a w ρ A
  | _ => False

theorem forceS_out {K : LS → Prop} (h : forceS s K) : K s := by
  obtain ⟨env, H, F0, NF⟩ := s
  have h := mapOK_out (mapK_out h)
  simpa using h

theorem out_panic {K : Ex → LS → Prop} : ∀ c a w, ¬ Out E K (.panic c) a w := fun _ _ _ h => h
theorem out_lets {K : Ex → LS → Prop} : ¬ LetsOut (Out E K) := fun ⟨_, _, h⟩ => h

theorem vc_in (r : Option Nat) (hmix : P.follows .mixedOrders = true) (hT : TOk P T) (hC : COk P C) (hn0 : E.At n0 C) : ∀ (c : Code) (s : LS) (a : Act) (w : World) (ρ : Nat → Nat) (A : FA) (K : Ex → LS → Prop), (r = none ∨ noDef c = true) → E.n0 ≤ s.H.length → SatL E s a w ρ A → vc T C n0 c s K → c.wpIn (FR r) 0 P (Out E K) a w := by
  intro c
  induction c with
  | skip => intro s a w ρ A K _ hle hs h; exact wpIn_skip ⟨s, h, hle, ρ, A, hs⟩
  | region id ops draw =>
    intro s a w ρ A K hd hle hs h
    have hd : r = none ∨ ops.toList.all noDefO = true := hd
    unfold vc at h
    split at h
    · rename_i hdr
      subst hdr
      exact wpIn_region_any hmix (any_in out_lets hd (h.out P _ E a w ρ A hT hC hn0 hle hs (fun s' a' w' ρ' A' hK hl hs' => ⟨s', hK, hl, ρ', A', hs'⟩) out_panic out_lets))
    · rename_i hdr
      have hdr : draw = false := by simpa using hdr
      subst hdr
      exact wpIn_region_list (list_in out_lets hd (vcOps_sound hT hC hn0 (fun s' a' w' ρ' A' hK hl hs' => ⟨s', hK, hl, ρ', A', hs'⟩) _ s a w ρ A hle hs h))
  | seq x y ihx ihy =>
    intro s a w ρ A K hd hle hs h
    have hd1 : r = none ∨ noDef x = true := hd.imp id fun h => by simp only [noDef, Bool.and_eq_true] at h; exact h.1
    have hd2 : r = none ∨ noDef y = true := hd.imp id fun h => by simp only [noDef, Bool.and_eq_true] at h; exact h.2
    unfold vc at h
    refine wpIn_seq (wpIn_mono (ihx s a w ρ A _ hd1 hle hs h) ?_)
    intro e a' w' hq
    cases e with
    | normal => obtain ⟨s', h1, h2, ρ', A', h3⟩ := hq; exact ihy s' a' w' ρ' A' K hd2 h2 h3 h1
    | exit i => obtain ⟨s', h1, h2, ρ', A', h3⟩ := hq; exact ⟨s', h1, h2, ρ', A', h3⟩
    | ret => obtain ⟨s', h1, h2, ρ', A', h3⟩ := hq; exact ⟨s', h1, h2, ρ', A', h3⟩
    | _ => exact hq.elim
  | cond c x y ihx ihy =>
    intro s a w ρ A K hd hle hs h
    have hd1 : r = none ∨ noDef x = true := hd.imp id fun h => by simp only [noDef, Bool.and_eq_true] at h; exact h.1
    have hd2 : r = none ∨ noDef y = true := hd.imp id fun h => by simp only [noDef, Bool.and_eq_true] at h; exact h.2
    unfold vc at h
    split at h
    · rename_i b hb
      have hr := ev_rep hs c
      rw [hb] at hr
      have hv : a.eval c = .bool b := by
        revert hr
        generalize a.eval c = v
        intro hr
        cases hr; rfl
      have h := brK_out h
      exact wpIn_cond_split hv (fun e => ihx s a w ρ A K hd1 hle hs (setC_out (by rw [hb, e]) (h.1 e))) (fun e => ihy s a w ρ A K hd2 hle hs (setC_out (by rw [hb, e]) (h.2 e)))
    · exact h.elim
  | block id c ih =>
    intro s a w ρ A K hd hle hs h
    unfold vc at h
    refine wpIn_block (wpIn_mono (ih s a w ρ A _ hd hle hs h) ?_)
    intro e a' w' hq
    cases e with
    | normal => exact hq
    | exit i =>
      obtain ⟨s', h1, h2, ρ', A', h3⟩ := hq
      show if i = id then _ else _
      simp only at h1
      split
      · rename_i hi; rw [if_pos hi] at h1; exact ⟨s', h1, h2, ρ', A', h3⟩
      · rename_i hi; rw [if_neg hi] at h1; exact ⟨s', h1, h2, ρ', A', h3⟩
    | ret => exact hq
    | _ => exact hq.elim
  | loop c ih =>
    intro s a w ρ A K hd hle hs h
    unfold vc at h
    obtain ⟨ι, mk, J, m, ⟨g, σ, hJ, hL⟩, hround⟩ := h
    obtain ⟨hs1, hle1⟩ := LeS_sound hL hn0.1 hs
    have h0 := hn0.1
    refine wpIn_loop_ghost (fun n a w => ∃ g ρ A, J g ∧ m g = n ∧ E.n0 ≤ (mk g).H.length ∧ SatL E (mk g) a w ρ A) (m g) ⟨g, _, A, hJ, rfl, by omega, hs1⟩ ?_
    rintro n a w ⟨g, ρ, A, hJ, hm, hle, hs⟩
    refine wpIn_mono (ih (mk g) a w ρ A _ hd hle hs (forceS_out (hround g hJ))) ?_
    intro e a' w' hq
    cases e with
    | normal =>
      obtain ⟨s', ⟨g', σ, hJ', hlt, hL'⟩, h2, ρ', A', h3⟩ := hq
      obtain ⟨hs1, hle1⟩ := LeS_sound hL' hn0.1 h3
      exact ⟨m g', by omega, g', _, A', hJ', rfl, by omega, hs1⟩
    | exit i => exact hq
    | ret => exact hq
    | _ => exact hq.elim
  | exit i => intro s a w ρ A K _ hle hs h; exact wpIn_exit ⟨s, h, hle, ρ, A, hs⟩
  | ret => intro s a w ρ A K _ hle hs h; exact wpIn_ret ⟨s, h, hle, ρ, A, hs⟩
  | rangeFunc g ps x y =>
    intro s a w ρ A K hd hle hs h
    have hr : r = none := hd.resolve_right (by simp [noDef])
    subst hr
    unfold vc at h
    refine h.out P _ E a w ρ A hT hC hmix hn0 hle hs fun e s' a' w' ρ' A' hK hl hs' => ?_
    cases e <;> exact ⟨s', hK, hl, ρ', A', hs'⟩
  | _ => intros; rename_i h; exact h.elim
theorem vc_sound (hmix : P.follows .mixedOrders = true) (hT : TOk P T) (hC : COk P C) (hn0 : E.At n0 C) (c : Code) (s : LS) (a : Act) (w : World) (ρ : Nat → Nat) (A : FA) (K : Ex → LS → Prop) (hle : E.n0 ≤ s.H.length) (hs : SatL E s a w ρ A) (h : vc T C n0 c s K) : c.wpIn Fence.wide 0 P (Out E K) a w :=
  vc_in none hmix hT hC hn0 c s a w ρ A K (.inl rfl) hle hs h
end Go.Vc
namespace Go.Vc
variable {P : Program} {T : TT} {C : CT} {E : Entry} {w : World} {ρ : Nat → Nat} {A : FA} {s : LS} {a : Act} {n0 : Nat}

def resultOf (a : Act) : ResultVar → Sem Value
  | .tmp t => pure (a.tmps.getD t undef)
  | .cell t ty => do loadVar ty (← asAddr (a.tmps.getD t undef))

theorem resK_sound (hT : TOk P T) (hs : SatL E s a w ρ A) : ∀ {rs : List ResultVar} {K : List AV → Prop}, resK T s rs K →
    ∃ xs vs, K xs ∧ (rs.mapM (resultOf a)).run P w = .ok vs w ∧ vs.length = xs.length ∧ ∀ (i : Nat) x v, xs[i]? = some x → vs[i]? = some v → RepV (ctxOf E s.toF.H w ρ A) x v
  | [], K, h => ⟨[], [], h, by simp, rfl, by simp⟩
  | r :: rs, K, h => by
    have key : ∃ x v, (resK T s rs fun xs => K (x :: xs)) ∧ (resultOf a r).run P w = .ok v w ∧ RepV (ctxOf E s.toF.H w ρ A) x v := by
      cases r with
      | tmp t => exact ⟨_, _, forceA_out h, by simp [resultOf], hs.env t⟩
      | cell t ty =>
        simp only [resK] at h
        split at h
        · rename_i k off hk
          have hr := hs.env t
          have hk' : s.toF.env t = .ptr k off := hk
          rw [hk'] at hr
          obtain ⟨v, x, h1, h2, h3⟩ := loadA_sound (D := (· = w)) hs.toSatW hT h hr (by rintro w' rfl; exact ag_self)
          have h3 := h3 w rfl
          refine ⟨x, v, forceA_out h1, ?_, h2⟩
          show (do loadVar ty (← asAddr (a.tmps.getD t undef)) : Sem Value).run P w = _
          generalize a.tmps.getD t undef = u at hr h3
          cases hr
          rw [Sem.run_bind]
          exact h3
        · exact h.elim
    obtain ⟨x, v, h1, h2, h3⟩ := key
    obtain ⟨xs, vs, g1, g2, g3, g4⟩ := resK_sound hT hs h1
    refine ⟨x :: xs, v :: vs, g1, by simp [List.mapM_cons, h2, g2], by simp [g3], fun i y u hy hu => ?_⟩
    cases i with
    | zero => simp at hy hu; subst hy hu; exact h3
    | succ i => exact g4 i y u (by simpa using hy) (by simpa using hu)

theorem notTup_out {c : Ctx} {x : AV} {v : Value} (h : notTup x = true) (hv : RepV c x v) : ∀ us, v ≠ .tuple us := by
  rintro us rfl
  cases hv with
  | any => simp [notTup] at h
  | val => simp [notTup] at h
  | tup => simp [notTup] at h
  | ints l v h' =>
    revert h'
    generalize icells l = y
    intro h'
    cases h'

theorem roFreeB_out {o : AO} (h : roFreeB o = true) : roFreeO o := by
  cases o with
  | dead => trivial
  | cells cs => exact h
  | iarr l => trivial
  | arr sz l =>
    simp only [roFreeB, List.all_eq_true] at h
    exact fun e he c hc => h e he c hc
theorem roK_out {al : Bool} {r : AV} {hs : List AO} {nF : List Fam} {X : Prop} (h : roK al r hs nF X) : X ∧ (al = false → (roFree r = true ∧ ∀ o ∈ hs, roFreeO o) ∧ nF = []) := by
  cases al with
  | true => exact ⟨h, fun h => by cases h⟩
  | false => exact ⟨h.2, fun _ => ⟨⟨h.1.1, fun o ho => roFreeB_out (List.all_eq_true.1 h.1.2.1 o ho)⟩, h.1.2.2⟩⟩

theorem finVC_sound {con : Con} {r : AV} {v : Value} {K : AV → List AO → List Fam → Prop} (hn0 : E.n0 = n0) (hs : SatL E s a w ρ A) (hr : RepV (ctxOf E s.toF.H w ρ A) r v) (h : finVC n0 con s r K) : Ret E con s.F0 K (.returned v) w := by
  obtain ⟨env, H, F0, NF⟩ := s
  unfold finVC at h
  have h := mapOK_out (forceA_out (natK_out (natX_out h)))
  rw [List.map_id'] at h
  obtain ⟨h1, hst, h2, h3⟩ := h
  obtain ⟨h4, h3⟩ := roK_out h3
  have hnd := nodupB_out h1
  refine ⟨v, _, _, NF, _, A, rfl, h4, hs.toSatW.relabel hnd hst hn0, rel_val hs.toSatW hnd hst hn0 hr, ?_, ?_, h3⟩
  · simp [relH, hn0]
  · simp only [relH, List.length_map, hn0]; exact h2

theorem finK_sound {con : Con} {res : List ResultVar} {fn : Func} {K : AV → List AO → List Fam → Prop} (hT : TOk P T) (hn0 : E.n0 = n0) (hres : fn.results.toList = res) (hs : SatL E s a w ρ A) (h : finK T n0 con res s K) :
    ∃ v, (results fn a.tmps).run P w = .ok v w ∧ Ret E con s.F0 K (.returned v) w := by
  obtain ⟨xs, vs, h1, h2, h3, h4⟩ := resK_sound hT hs h
  have hrun : (results fn a.tmps).run P w = .ok (if h : vs.length = 1 then vs[0] else .tuple vs.toArray) w := by
    have e : results fn a.tmps = (do let us ← fn.results.mapM (resultOf a); pure (if h : us.size = 1 then us[0] else .tuple us)) := by
      unfold results
      congr 1
    rw [e, Array.mapM_eq_mapM_toList, hres]
    simp [h2]
  rw [hrun]
  refine ⟨_, rfl, ?_⟩
  split at h1
  · rename_i x
    obtain ⟨v, hv⟩ : ∃ v, vs = [v] := by
      cases vs with
      | nil => simp at h3
      | cons v r => cases r with
        | nil => exact ⟨v, rfl⟩
        | cons _ _ => simp at h3
    subst hv
    simp only [List.length_singleton, dite_true, List.getElem_cons_zero]
    exact finVC_sound hn0 hs (h4 0 x v rfl rfl) h1
  · rename_i hne
    have hlen : vs.length ≠ 1 := by
      intro e
      rw [h3] at e
      obtain ⟨x, hx⟩ := List.length_eq_one_iff.1 e
      exact hne x hx
    rw [dif_neg hlen]
    refine finVC_sound hn0 hs (.tup xs vs h3 (fun v hv => ?_) h4) h1.2
    obtain ⟨i, hi, rfl⟩ := List.getElem_of_mem hv
    have hxi : xs[i]? = some (xs[i]'(by omega)) := List.getElem?_eq_getElem (by omega)
    exact notTup_out (List.all_eq_true.1 h1.1 _ (List.getElem_mem (by omega))) (h4 i _ _ hxi (List.getElem?_eq_getElem hi))

/-- Cells stay as they are, what holds none may turn. -/
structure KeepC (c c' : Ctx) : Prop where
  ok : ∀ b, c.ok b → c'.ok b
  Z : ∀ b, c.Z b → c'.Z b
  heap : ∀ (b : Nat) (vs : Array Value) (T : TypeId) (fr : Nat × Nat), c.w.heap[b]? = some (Obj.cells vs T fr) → c'.w.heap[b]? = some (Obj.cells vs T fr)
  ρ : c'.ρ = c.ρ
  H : c'.H = c.H
  A : c'.A = c.A
theorem KeepC.cell {c c' : Ctx} (k : KeepC c c') {x : Addr} {v : Value} (h : c.w.cell? x = some v) : c'.w.cell? x = some v := by
  obtain ⟨o, h1, h2⟩ := cells_of_cell h
  cases o with
  | cells vs T fr => exact (World.cell?_of_block ((k.heap _ _ _ _ h1).trans h1.symm)).trans h
  | _ => simp [Obj.isCells] at h2
theorem KeepC.room {c c' : Ctx} (k : KeepC c c') {j n : Nat} (h : c.room j n) : c'.room j n := by
  obtain ⟨vs, T, fr, h1, h2⟩ := h
  exact ⟨vs, T, fr, by rw [k.ρ]; exact k.heap _ _ _ _ h1, h2⟩
theorem RepV.keepC {c c' : Ctx} (k : KeepC c c') {a : AV} {v : Value} (h : RepV c a v) : RepV c' a v := by
  induction h with
  | any v => exact .any v
  | val v => exact .val v
  | agg cs vs hl h1 h ih => exact .agg cs vs hl h1 ih
  | tup cs vs hl hn h ih => exact .tup cs vs hl hn ih
  | sl0 sz a cap => exact .sl0 sz a cap
  | sl sz l b off cap vf hok hcap hl hc h ih => exact .sl sz l b off cap vf (k.ok b hok) hcap hl (fun i e j a hi hj => ⟨k.cell (hc i e j a hi hj).1, (hc i e j a hi hj).2⟩) ih
  | zsl0 sz a cap => exact .zsl0 sz a cap
  | zsl sz l b off cap vf hz hcap hl hc h ih => exact .zsl sz l b off cap vf (k.Z b hz) hcap hl (fun i e j a hi hj => ⟨k.cell (hc i e j a hi hj).1, (hc i e j a hi hj).2⟩) ih
  | ints l v h ih => exact .ints l v ih
  | bytes0 a cap => exact .bytes0 a cap
  | bytes l b off cap hz hcap hc => exact .bytes l b off cap (k.Z b hz) hcap fun i x hi => k.cell (hc i x hi)
  | ro cs b off vf hok hc h ih => exact .ro cs b off vf (hok.imp (k.ok b) (k.Z b)) (fun j a hj => ⟨k.cell (hc j a hj).1, (hc j a hj).2⟩) ih
  | ptr j off cs hk => rw [← k.ρ]; exact .ptr j off cs (by rw [k.H]; exact hk)
  | el j i off sz n hk hi => rw [← k.ρ]; exact .el j i off sz n (by rw [k.H]; exact hk) hi
  | own j sz n cap hk hcap hr => rw [← k.ρ]; exact .own j sz n cap (by rw [k.H]; exact hk) hcap (k.room hr)
  | sub j sz n lo hi o cap hk h1 h2 hcap hr ho => rw [← k.ρ]; exact .sub j sz n lo hi o cap (by rw [k.H]; exact hk) h1 h2 hcap (k.room hr) ho
  | win j off n cap cs hk hcap hr => rw [← k.ρ]; exact .win j off n cap cs (by rw [k.H]; exact hk) hcap (k.room hr)
  | clo f j cs hk => rw [← k.ρ]; exact .clo f j cs (by rw [k.H]; exact hk)
  | ifp t j off cs hk => rw [← k.ρ]; exact .ifp t j off cs (by rw [k.H]; exact hk)
  | rp f i off hf => rw [← k.A]; exact .rp f i off (by rw [k.A]; exact hf)
  | iface t x v hp h ih => exact .iface t x v hp ih
theorem RepO.keepC {c c' : Ctx} (k : KeepC c c') {j : Nat} {o : AO} (h : RepO c j o) : RepO c' j o := by
  cases o with
  | dead => trivial
  | cells cs =>
    obtain ⟨vs, T, h1, h2, h3, h4⟩ := h
    exact ⟨vs, T, by rw [k.ρ]; exact k.heap _ _ _ _ h1, h2, h3, fun j a v ha hv => (h4 j a v ha hv).keepC k⟩
  | iarr l =>
    obtain ⟨vs, T, h1, h2, h3, h4⟩ := h
    exact ⟨vs, T, by rw [k.ρ]; exact k.heap _ _ _ _ h1, h2, h3, fun i e j a v hi hj hv => ⟨(h4 i e j a v hi hj hv).1.keepC k, (h4 i e j a v hi hj hv).2⟩⟩
  | arr sz l =>
    obtain ⟨vs, T, h1, h2, h3, h5, h4⟩ := h
    exact ⟨vs, T, by rw [k.ρ]; exact k.heap _ _ _ _ h1, h2, h3, h5, fun i e j a v hi hj hv => ⟨(h4 i e j a v hi hj hv).1.keepC k, (h4 i e j a v hi hj hv).2⟩⟩
theorem RepFam.keepC {c c' : Ctx} (k : KeepC c c') {f : Nat} {F : Fam} (h : RepFam c f F) : RepFam c' f F := by
  obtain ⟨h1, h2, h3, h5⟩ := h
  refine ⟨fun i cs hi => ?_, by rw [k.A]; exact h2, fun g hg => ?_, fun hp i cs hi => ?_⟩
  · obtain ⟨g1, vf, g2⟩ := h1 i cs hi
    rw [k.A]
    exact ⟨g1.imp (k.ok _) (k.Z _), vf, fun j a hj => ⟨k.cell (g2 j a hj).1, (g2 j a hj).2.1, (g2 j a hj).2.2.1, (g2 j a hj).2.2.2.keepC k⟩⟩
  · obtain ⟨g1, g2⟩ := h3 g hg
    rw [k.A]
    refine ⟨g1, fun cs hcs => ?_⟩
    obtain ⟨vs, T, fr, g3, g4⟩ := g2 cs hcs
    exact ⟨vs, T, fr, k.heap _ _ _ _ g3, g4⟩
  · obtain ⟨vs, T, g3⟩ := h5 hp i cs hi
    rw [k.A]
    exact ⟨vs, T, k.heap _ _ _ _ g3⟩

/-- A world whose cells are the same; every block of the entry's world is. -/
theorem Sat.turn {S : FS} {tm : Nat} (h : Sat E S tm a w ρ A) {w' : World} (hos : w'.os = w.os) (htp : w'.tape = w.tape) (hout : w'.output = w.output) (hsz : w.heap.size ≤ w'.heap.size)
    (hc : ∀ (b : Nat) (vs : Array Value) (T : TypeId) (fr : Nat × Nat), w.heap[b]? = some (Obj.cells vs T fr) → w'.heap[b]? = some (Obj.cells vs T fr)) (hold : ∀ b, b < E.w0.heap.size → w'.heap[b]? = w.heap[b]?) (hun : ∀ b, b < w.heap.size → unfr w b → unfr w' b) {a' : Act} (ha : a'.tmps = a.tmps)
    (hm : MarkOk E.w0.heap.size (ctxOf E S.H w' ρ A) a'.defers) : Sat E S tm a' w' ρ A := by
  have k : KeepC (ctxOf E S.H w ρ A) (ctxOf E S.H w' ρ A) :=
    ⟨fun b hb => hb.imp id fun ⟨h1, h2, h3, h4⟩ => ⟨h1, Nat.lt_of_lt_of_le h2 hsz, h3, hun b h2 h4⟩, fun _ hb => hb, hc, rfl, rfl, rfl⟩
  exact { os := hos.trans h.os, tape := htp.trans h.tape, output := hout.trans h.output, size := Nat.le_trans h.size hsz, frame := fun b hb hn => (hold b hb).trans (h.frame b hb hn), okB := h.okB, zB := h.zB,
          place := fun j hj => ⟨Nat.lt_of_lt_of_le (h.place j hj).1 hsz, (h.place j hj).2⟩, inj := h.inj, stay := h.stay, fix := h.fix,
          grow := fun hfx j hj vs T fr h0 => let ⟨vs', T', fr', h1, h2⟩ := h.grow hfx j hj vs T fr h0; ⟨vs', T', fr', hc _ _ _ _ h1, h2⟩,
          pins := fun p hp => ⟨(h.pins p hp).1, (hold _ (h.okB _ (h.pins p hp).1).1).trans (h.pins p hp).2⟩,
          obj := fun j => (h.obj j).keepC k, fl := h.fl, nf := h.nf, A0 := h.A0, fam := fun f fam hf => (h.fam f fam hf).keepC k, env := fun t => by rw [ha]; exact (h.env t).keepC k, tsize := by rw [ha]; exact h.tsize, defers := hm }
theorem Sat.turnObj {S : FS} {tm : Nat} (h : Sat E S tm a w ρ A) {l : Nat} {o o' : Obj} (hl : w.heap[l]? = some o) (ho : o.isCells = false) (ho' : ∀ vs T fr, o' ≠ .cells vs T fr) (hlo : E.w0.heap.size ≤ l) {a' : Act} (ha : a'.tmps = a.tmps)
    (hm : MarkOk E.w0.heap.size (ctxOf E S.H (w.putObj l o') ρ A) a'.defers) : Sat E S tm a' (w.putObj l o') ρ A :=
  h.turn (w' := w.putObj l o') rfl rfl rfl (Nat.le_of_eq World.putObj_size.symm) (fun b vs T fr hb => by
    rw [World.putObj_heap_other (by rintro rfl; rw [hl] at hb; cases hb; simp [Obj.isCells] at ho)]; exact hb) (fun b hb => World.putObj_heap_other (by omega)) (fun b hb hu => by
    by_cases e : b = l
    · subst e
      exact .obj (World.putObj_heap_same hb) ho'
    · exact hu.same (World.putObj_heap_other e)) ha hm

theorem leaves_of {fn : Func} {tmps : Array Value} {R : Ending → World → Prop} {S : FS} {tm : Nat} (hfin : ∀ a' w', a'.tmps = tmps → Sat E S tm a' w' ρ A → ∃ v, (results fn tmps).run P w' = .ok v w' ∧ R (.returned v) w') :
    ∀ (ds : List Deferred) (a : Act) (w : World), a.tmps = tmps → a.defers = ds → Sat E S tm a w ρ A → LeavesInM Fence.wide 0 P fn tmps R ds .returning w
  | [], a, w, ht, _, hs => hfin a w ht hs
  | d :: ds, a, w, ht, hd, hs => by
    have hm := hs.defers
    rw [hd] at hm
    obtain ⟨D, rfl, hlo, hok, hD⟩ := hm.2 d (by simp)
    have hD : w.heap[D]? = some (.deferred (some [])) := hD
    refine ⟨by simp, .inl ⟨D, w.putObj D (.deferred none), rfl, run_takeDeferred hD, ?_⟩⟩
    refine leaves_of hfin ds { a with defers := ds } _ ht rfl (hs.turnObj hD rfl (fun _ _ _ e => by cases e) hlo rfl ⟨(List.nodup_cons.1 hm.1).2, fun d hd' => ?_⟩)
    obtain ⟨D', rfl, h1, h2, h3⟩ := hm.2 d (by simp [hd'])
    have hne : D' ≠ D := by rintro rfl; exact (List.nodup_cons.1 hm.1).1 hd'
    refine ⟨D', rfl, h1, h2.imp id fun ⟨g1, g2, g3, g4⟩ => ⟨g1, by rw [World.putObj_size]; exact g2, g3, g4.same (World.putObj_heap_other hne)⟩, ?_⟩
    exact (World.putObj_heap_other hne).trans h3

/-- The contract of a function from the condition of its body. -/
theorem keeps_of_vc (hmix : P.follows .mixedOrders = true) (hT : TOk P T) (hC : COk P C) {f : FuncId} {fn : Func} {c : Code} {con : Con} {ntmps : Nat} {res : List ResultVar} (hf : P.funcs[f]? = some fn) (hb : fn.body = some c) (hnt : fn.ntmps = ntmps) (hres : fn.results.toList = res)
    (h : ∀ aargs hs Fs K, con.C aargs hs Fs K → bodyVC T C con ntmps res c aargs hs Fs K)
    (hfx : con.mode = 3 → C.fx = true := by first | exact fun _ => rfl | (intro h; exact absurd h (by decide))) : Keeps' P f con := by
  intro E args aargs hs Fs K hcon hlen hn0 hsat hargs hfxE
  have hv := h aargs hs Fs K hcon
  have hS : SatL E ⟨aargs ++ List.replicate (ntmps - aargs.length) .any, hs, Fs, []⟩ { tmps := args.toArray ++ Array.replicate (fn.ntmps - args.toArray.size) undef, defers := [] } E.w0 E.ρ0 E.A0 := by
    refine { (by simpa [LS.toF] using hsat : SatW E (listH hs) (Fs ++ []) E.w0 E.ρ0 E.A0) with env := fun t => ?_, tsize := by simp [hlen, hnt], defers := .nil }
    show RepV _ ((aargs ++ List.replicate (ntmps - aargs.length) AV.any).getD t .any) _
    by_cases ht : t < aargs.length
    · have h1 : aargs[t]? = some aargs[t] := List.getElem?_eq_getElem ht
      have h2 : args[t]? = some (args[t]'(by omega)) := List.getElem?_eq_getElem (by omega)
      have := hargs t _ _ h1 h2
      have e1 : (aargs ++ List.replicate (ntmps - aargs.length) AV.any).getD t .any = aargs[t] := by
        rw [List.getD, List.getElem?_append_left ht, h1]; rfl
      have e2 : (args.toArray ++ Array.replicate (fn.ntmps - args.toArray.size) undef).getD t undef = args[t]'(by omega) := by
        rw [Array.getD_eq_getD_getElem?, Array.getElem?_append_left (by simp; omega)]
        simp [h2]
      rw [e1, e2]; exact this
    · have e1 : (aargs ++ List.replicate (ntmps - aargs.length) AV.any).getD t .any = .any := by
        simp only [List.getD]
        rw [List.getElem?_append_right (by omega), List.getElem?_replicate]
        split <;> rfl
      rw [e1]; exact .any _
  exact callsIn_wide.1 (callsIn_of_wp_marks (n := 0) hf hb trivial (wpIn_mono (vc_sound hmix hT hC ⟨hn0, fun h => hfx (hfxE h)⟩ c _ _ E.w0 E.ρ0 E.A0 _ (by simp [hn0]) hS hv) fun e a' w' hq => by
    cases e with
    | normal =>
      obtain ⟨s', ⟨h1, h2⟩, h3, ρ', A', h4⟩ := hq
      exact leaves_of (fun a'' w'' ht h5 => by
        have := finK_sound hT hn0 hres (a := a'') h5 h2
        rw [h1, ht] at this
        exact this) a'.defers a' w' rfl rfl h4
    | ret =>
      obtain ⟨s', ⟨h1, h2⟩, h3, ρ', A', h4⟩ := hq
      exact leaves_of (fun a'' w'' ht h5 => by
        have := finK_sound hT hn0 hres (a := a'') h5 h2
        rw [h1, ht] at this
        exact this) a'.defers a' w' rfl rfl h4
    | exit i => obtain ⟨s', h1, _⟩ := hq; exact h1.elim
    | _ => exact hq.elim))
end Go.Vc
