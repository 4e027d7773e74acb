/-
From the condition of a body to the contract of its function.
No conditions.
-/
import Derived.Test.YtbpnfmpbaohklaaDoorVcRun
namespace Go.Vc
variable {P : Program} {T : TT} {C : CT} {E : Entry} {w : World} {ρ : Nat → Nat} {A : FA} {s : LS} {a : Act} {n0 : Nat}

def resultOf (a : Act) : ResultVar → Sem Value
  | .tmp t => pure (a.tmps.getD t undef)
  | .cell t ty => do loadVar ty (← asAddr (a.tmps.getD t undef))

theorem resK_sound (hT : TOk P T) (hs : SatL E s a w ρ A) : ∀ {rs : List ResultVar} {K : List AV → Prop}, resK T s rs K →
    ∃ xs vs, K xs ∧ (rs.mapM (resultOf a)).run P w = .ok vs w ∧ vs.length = xs.length ∧ ∀ (i : Nat) x v, xs[i]? = some x → vs[i]? = some v → RepV (ctxOf E s.toF.H w ρ A) x v
  | [], K, h => ⟨[], [], h, by simp, rfl, by simp⟩
  | r :: rs, K, h => by
    have key : ∃ x v, (resK T s rs fun xs => K (x :: xs)) ∧ (resultOf a r).run P w = .ok v w ∧ RepV (ctxOf E s.toF.H w ρ A) x v := by
      cases r with
      | tmp t => exact ⟨_, _, forceA_out h, by simp [resultOf], hs.env t⟩
      | cell t ty =>
        simp only [resK] at h
        split at h
        · rename_i k off hk
          have hr := hs.env t
          have hk' : s.toF.env t = .ptr k off := hk
          rw [hk'] at hr
          obtain ⟨v, x, h1, h2, h3⟩ := loadA_sound (D := (· = w)) hs.toSatW hT h hr (by rintro w' rfl; exact ag_self)
          have h3 := h3 w rfl
          refine ⟨x, v, forceA_out h1, ?_, h2⟩
          show (do loadVar ty (← asAddr (a.tmps.getD t undef)) : Sem Value).run P w = _
          generalize a.tmps.getD t undef = u at hr h3
          cases hr
          rw [Sem.run_bind]
          exact h3
        · exact h.elim
    obtain ⟨x, v, h1, h2, h3⟩ := key
    obtain ⟨xs, vs, g1, g2, g3, g4⟩ := resK_sound hT hs h1
    refine ⟨x :: xs, v :: vs, g1, by simp [List.mapM_cons, h2, g2], by simp [g3], fun i y u hy hu => ?_⟩
    cases i with
    | zero => simp at hy hu; subst hy hu; exact h3
    | succ i => exact g4 i y u (by simpa using hy) (by simpa using hu)

theorem notTup_out {c : Ctx} {x : AV} {v : Value} (h : notTup x = true) (hv : RepV c x v) : ∀ us, v ≠ .tuple us := by
  rintro us rfl
  cases hv with
  | any => simp [notTup] at h
  | val => simp [notTup] at h
  | tup => simp [notTup] at h
  | ints l v h' =>
    revert h'
    generalize icells l = y
    intro h'
    cases h'

theorem roFreeB_out {o : AO} (h : roFreeB o = true) : roFreeO o := by
  cases o with
  | dead => trivial
  | cells cs => exact h
  | iarr l => trivial
  | arr sz l =>
    simp only [roFreeB, List.all_eq_true] at h
    exact fun e he c hc => h e he c hc
theorem roK_out {al : Bool} {r : AV} {hs : List AO} {nF : List Fam} {X : Prop} (h : roK al r hs nF X) : X ∧ (al = false → (roFree r = true ∧ ∀ o ∈ hs, roFreeO o) ∧ nF = []) := by
  cases al with
  | true => exact ⟨h, fun h => by cases h⟩
  | false => exact ⟨h.2, fun _ => ⟨⟨h.1.1, fun o ho => roFreeB_out (List.all_eq_true.1 h.1.2.1 o ho)⟩, h.1.2.2⟩⟩

theorem finVC_sound {con : Con} {r : AV} {v : Value} {K : AV → List AO → List Fam → Prop} (hn0 : E.n0 = n0) (hs : SatL E s a w ρ A) (hr : RepV (ctxOf E s.toF.H w ρ A) r v) (h : finVC n0 con s r K) : Ret E con s.F0 K (.returned v) w := by
  obtain ⟨env, H, F0, NF⟩ := s
  unfold finVC at h
  have h := mapOK_out (forceA_out (natK_out (natK_out h)))
  rw [List.map_id'] at h
  obtain ⟨h1, hst, h2, h3⟩ := h
  obtain ⟨h4, h3⟩ := roK_out h3
  have hnd := nodupB_out h1
  refine ⟨v, _, _, NF, _, A, rfl, h4, hs.toSatW.relabel hnd hst hn0, rel_val hs.toSatW hnd hst hn0 hr, ?_, ?_, h3⟩
  · simp [relH, hn0]
  · simp only [relH, List.length_map, hn0]; exact h2

theorem finK_sound {con : Con} {res : List ResultVar} {fn : Func} {K : AV → List AO → List Fam → Prop} (hT : TOk P T) (hn0 : E.n0 = n0) (hres : fn.results.toList = res) (hs : SatL E s a w ρ A) (h : finK T n0 con res s K) :
    ∃ v, (results fn a.tmps).run P w = .ok v w ∧ Ret E con s.F0 K (.returned v) w := by
  obtain ⟨xs, vs, h1, h2, h3, h4⟩ := resK_sound hT hs h
  have hrun : (results fn a.tmps).run P w = .ok (if h : vs.length = 1 then vs[0] else .tuple vs.toArray) w := by
    have e : results fn a.tmps = (do let us ← fn.results.mapM (resultOf a); pure (if h : us.size = 1 then us[0] else .tuple us)) := by
      unfold results
      congr 1
    rw [e, Array.mapM_eq_mapM_toList, hres]
    simp [h2]
  rw [hrun]
  refine ⟨_, rfl, ?_⟩
  split at h1
  · rename_i x
    obtain ⟨v, hv⟩ : ∃ v, vs = [v] := by
      cases vs with
      | nil => simp at h3
      | cons v r => cases r with
        | nil => exact ⟨v, rfl⟩
        | cons _ _ => simp at h3
    subst hv
    simp only [List.length_singleton, dite_true, List.getElem_cons_zero]
    exact finVC_sound hn0 hs (h4 0 x v rfl rfl) h1
  · rename_i hne
    have hlen : vs.length ≠ 1 := by
      intro e
      rw [h3] at e
      obtain ⟨x, hx⟩ := List.length_eq_one_iff.1 e
      exact hne x hx
    rw [dif_neg hlen]
    refine finVC_sound hn0 hs (.tup xs vs h3 (fun v hv => ?_) h4) h1.2
    obtain ⟨i, hi, rfl⟩ := List.getElem_of_mem hv
    have hxi : xs[i]? = some (xs[i]'(by omega)) := List.getElem?_eq_getElem (by omega)
    exact notTup_out (List.all_eq_true.1 h1.1 _ (List.getElem_mem (by omega))) (h4 i _ _ hxi (List.getElem?_eq_getElem hi))

/-- The contract of a function from the condition of its body. -/
theorem keeps_of_vc (hmix : P.follows .mixedOrders = true) (hT : TOk P T) (hC : COk P C) {f : FuncId} {fn : Func} {c : Code} {con : Con} {ntmps : Nat} {res : List ResultVar} (hf : P.funcs[f]? = some fn) (hb : fn.body = some c) (hnt : fn.ntmps = ntmps) (hres : fn.results.toList = res)
    (h : ∀ aargs hs Fs K, con.C aargs hs Fs K → bodyVC T C con ntmps res c aargs hs Fs K) : Keeps' P f con := by
  intro E args aargs hs Fs K hcon hlen hn0 hsat hargs
  refine calls_of_wp hf hb ?_
  have hv := h aargs hs Fs K hcon
  have hS : SatL E ⟨aargs ++ List.replicate (ntmps - aargs.length) .any, hs, Fs, []⟩ { tmps := args.toArray ++ Array.replicate (fn.ntmps - args.toArray.size) undef, defers := [] } E.w0 E.ρ0 E.A0 := by
    refine { (by simpa [LS.toF] using hsat : SatW E (listH hs) (Fs ++ []) E.w0 E.ρ0 E.A0) with env := fun t => ?_, tsize := by simp [hlen, hnt], defers := rfl }
    show RepV _ ((aargs ++ List.replicate (ntmps - aargs.length) AV.any).getD t .any) _
    by_cases ht : t < aargs.length
    · have h1 : aargs[t]? = some aargs[t] := List.getElem?_eq_getElem ht
      have h2 : args[t]? = some (args[t]'(by omega)) := List.getElem?_eq_getElem (by omega)
      have := hargs t _ _ h1 h2
      have e1 : (aargs ++ List.replicate (ntmps - aargs.length) AV.any).getD t .any = aargs[t] := by
        rw [List.getD, List.getElem?_append_left ht, h1]; rfl
      have e2 : (args.toArray ++ Array.replicate (fn.ntmps - args.toArray.size) undef).getD t undef = args[t]'(by omega) := by
        rw [Array.getD_eq_getD_getElem?, Array.getElem?_append_left (by simp; omega)]
        simp [h2]
      rw [e1, e2]; exact this
    · have e1 : (aargs ++ List.replicate (ntmps - aargs.length) AV.any).getD t .any = .any := by
        simp only [List.getD]
        rw [List.getElem?_append_right (by omega), List.getElem?_replicate]
        split <;> rfl
      rw [e1]; exact .any _
  refine Code.wp_mono ?_ (vc_sound hmix hT hC hn0 c _ _ E.w0 E.ρ0 E.A0 _ (by simp [hn0]) hS hv)
  intro e a' w' hq
  cases e with
  | normal =>
    obtain ⟨s', ⟨h1, h2⟩, h3, ρ', A', h4⟩ := hq
    obtain ⟨v, h5, h6⟩ := finK_sound hT hn0 hres h4 h2
    rw [h1] at h6
    exact ⟨h4.defers, v, h5, h6⟩
  | ret =>
    obtain ⟨s', ⟨h1, h2⟩, h3, ρ', A', h4⟩ := hq
    obtain ⟨v, h5, h6⟩ := finK_sound hT hn0 hres h4 h2
    rw [h1] at h6
    exact ⟨h4.defers, v, h5, h6⟩
  | exit i => obtain ⟨s', h1, _⟩ := hq; exact h1.elim
  | _ => exact hq.elim
end Go.Vc
