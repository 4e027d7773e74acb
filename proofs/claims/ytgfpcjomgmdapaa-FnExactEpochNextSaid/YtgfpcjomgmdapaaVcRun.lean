/-
The condition of a whole body is enough.
No conditions.
-/
import Derived.Test.YtgfpcjomgmdapaaVcWide
namespace Go.Vc
variable {P : Program} {T : TT} {C : CT} {E : Entry} {w : World} {ρ : Nat → Nat} {A : FA} {s : LS} {a : Act} {o : Oper} {n0 : Nat} {Q : Exit → Act → World → Prop}

theorem ag_self {H : Nat → AO} {k : Option Nat} : Ag (ctxOf E H w ρ A) k w := ⟨fun _ _ => rfl, fun _ _ => rfl⟩

theorem vcOp_sound (hT : TOk P T) (hC : COk P C) (hn0 : E.At n0 C) (hle : E.n0 ≤ s.H.length) (hs : SatL E s a w ρ A) {pk : List Nat} {K : LS → Prop} (h : vcOp T C n0 pk o s K) : o.wp P a w (Post E s ρ w pk K) Q := by
  have hmem : ∀ {s' : LS}, SatL E s' a w ρ A → E.n0 ≤ s'.H.length → (memA T (listH s'.H) s'.ev s'.H.length o.op fun e => fixP C.fx n0 e.kill (offP pk (tchL e) (effK s' o.dst e K))) → o.wp P a w (Post E s' ρ w pk K) Q :=
    fun hs' hle' h => mem_post hle' (memA_sound hs' hle' (listH_dead (Nat.le_refl _)) hT (ev_rep hs') h (fun e he hfx k hk => by have := (fixP_out he).2 (hn0.2 hfx) k hk; have h0 := hn0.1; omega))
  have haux : (auxA T (listH s.H) s.ev o.op fun x => putK s o.dst x K) → o.wp P a w (Post E s ρ w pk K) Q := by
    intro h
    obtain ⟨v, x, hK, hr, hrun⟩ := auxA_sound hT hs.obj (ev_rep hs) h
    exact value_post hs hle (hrun w) hr hK
  have hval : (valA T (listH s.H) (s.F0 ++ s.NF) o.op (o.op.operands.toList.map s.ev) fun x => putK s o.dst x K) → o.wp P a w (Post E s ρ w pk K) Q := by
    intro h
    obtain ⟨v, x, hK, hr, hrun⟩ := valA_sound hs.toSatW hT (ev_rep hs) h
    exact value_post hs hle (hrun w ag_self) hr hK
  have hfrz : (frzK n0 pk (frzOf s o.op) s fun s => memA T (listH s.H) s.ev s.H.length o.op fun e => fixP C.fx n0 e.kill (offP pk (tchL e) (effK s o.dst e K))) → o.wp P a w (Post E s ρ w pk K) Q := by
    intro h
    obtain ⟨s', h1, h2, h3, h4, h5⟩ := frzK_out hn0.1 h hs
    refine wp_mono_next ?_ (hmem h2 (by omega) h1)
    rintro a' w' ⟨s'', g1, g2, ρ', A', g3, g4⟩
    exact ⟨s'', g1, g2, ρ', A', g3, h5.trans g4⟩
  unfold vcOp at h
  split at h
  all_goals first
    | exact h.elim
    | exact hmem hs hle h
    | exact hfrz h
    | exact haux h
    | exact callK_sound hs hC hn0 hle ‹_› rfl h
    | exact hval h
    | skip
  case _ fn fi ca hop =>
    split at h
    case h_2 => exact h.elim
    case h_1 f x hfi hca =>
      split at h
      case h_2 => exact h.elim
      case h_1 k hk =>
        split at h
        case h_2 => exact h.elim
        case h_1 cs hcs =>
          have hr := ev_rep hs x
          rw [hk] at hr
          have hfi : fi = #[] := by apply Array.ext'; simpa using hfi
          have hca : ca = #[x] := by apply Array.ext'; simpa using hca
          subst hfi hca
          generalize hv : a.eval x = v at hr
          cases hr with
          | ptr _ _ cs' hk' =>
            exact value_post (v := .func (.func f) #[] #[.pointer (some ⟨ρ k, 0, none⟩)]) hs hle (by simp [execOp, hop, Instr.makeFunc, hv]) (.clo f k cs' hk') h
  case _ t args ats hop =>
    split at h
    case h_2 => exact h.elim
    case h_1 f x y heq =>
      obtain ⟨rfl, rfl, h⟩ := h
      refine callK_sound hs hC hn0 hle hop ?_ h
      have hr := hs.env t
      have heq : s.toF.env t = .val (.func (.func f) #[] #[]) := heq
      rw [heq] at hr
      show a.tmps.getD t undef = _
      revert hr
      generalize a.tmps.getD t undef = v
      intro hr
      cases hr
      rfl

/-- What a guard says of the abstract state, and of the run. -/
theorem vcG_cases {ops : Array Oper} {X : LS → (LS → Prop) → Prop} {K : LS → Prop} (hs : SatL E s a w ρ A) (h : vcG ops o X s K) :
    (Region.wanted o (yielded ops a.tmps) = true ∧ X s K) ∨ (Region.wanted o (yielded ops a.tmps) = false ∧ putK s o.dst (.val (.tuple #[])) K) := by
  unfold vcG at h
  split at h
  · rename_i hg
    exact .inl ⟨by simp [Region.wanted, hg], h⟩
  · rename_i j want hg
    split at h
    · exact h.elim
    · rename_i d hd
      split at h
      · rename_i b hb
        have hr := hs.env d
        have hb' : s.toF.env d = .val (.bool b) := hb
        rw [hb'] at hr
        have hv : a.tmps.getD d undef = .bool b := by
          revert hr
          generalize a.tmps.getD d undef = v
          intro hr
          cases hr; rfl
        have hv' : a.tmps[d]? = some (.bool b) := by
          rw [Array.getD_eq_getD_getElem?] at hv
          cases hx : a.tmps[d]? with
          | none => rw [hx] at hv; simp [undef] at hv
          | some x => rw [hx] at hv; simpa using hv
        have hy : yielded ops a.tmps j = some b := by simp [yielded, hd, hv']
        have hw : Region.wanted o (yielded ops a.tmps) = decide (b = want) := by
          simp only [Region.wanted, hg, hy]
          by_cases e : b = want <;> simp [e]
        have h := brK_out h
        rw [hw]
        cases b with
        | true =>
          have h1 := setB_out hb (h.1 rfl)
          cases want with
          | true => exact .inl ⟨rfl, h1⟩
          | false => exact .inr ⟨rfl, h1⟩
        | false =>
          have h1 := setB_out hb (h.2 rfl)
          cases want with
          | true => exact .inr ⟨rfl, h1⟩
          | false => exact .inl ⟨rfl, h1⟩
      · rename_i us hb
        have hr := hs.env d
        have hb' : s.toF.env d = .val (.tuple us) := hb
        rw [hb'] at hr
        have hv : a.tmps.getD d undef = .tuple us := by
          revert hr
          generalize a.tmps.getD d undef = v
          intro hr
          cases hr; rfl
        have hy : yielded ops a.tmps j = none := by
          simp only [yielded, hd, Option.bind_some]
          rw [Array.getD_eq_getD_getElem?] at hv
          cases hx : a.tmps[d]? with
          | none => rfl
          | some x =>
            rw [hx] at hv
            have hv : x = .tuple us := hv
            subst hv
            rfl
        exact .inr ⟨by simp [Region.wanted, hg, hy], h⟩
      · exact h.elim

theorem vcOps_sound (hT : TOk P T) (hC : COk P C) (hn0 : E.At n0 C) {ops : Array Oper} {K : LS → Prop} (hQ : ∀ s' a' w' ρ' A', K s' → E.n0 ≤ s'.H.length → SatL E s' a' w' ρ' A' → Q .normal a' w') :
    ∀ (l : List Oper) (s : LS) (a : Act) (w : World) (ρ : Nat → Nat) (A : FA), E.n0 ≤ s.H.length → SatL E s a w ρ A → vcOps T C n0 ops l s K → wpList P ops Q l a w := by
  intro l
  induction l with
  | nil => intro s a w ρ A hle hs h; exact hQ s a w ρ A h hle hs
  | cons o r ih =>
    intro s a w ρ A hle hs h
    unfold wpList
    unfold vcOps at h
    rcases vcG_cases hs h with ⟨hw, h⟩ | ⟨hw, h⟩
    · rw [if_pos hw]
      refine .inl (Oper.wp_mono (K := Post E s ρ w [] fun s => vcOps T C n0 ops r s K) ?_ (vcOp_sound hT hC hn0 hle hs h))
      rintro a' w' ⟨s', h1, h2, ρ', A', h3, _⟩
      exact ih s' a' w' ρ' A' h2 h3 h1
    · rw [if_neg (by rw [hw]; simp)]
      obtain ⟨s', h1, h2, h3, h4⟩ := putK_out h
      refine ih s' _ w ρ A (by rw [h4]; exact hle) ?_ h1
      unfold SatL
      rw [h2, h3]
      exact Sat.put hs o.dst (.val _)

/-- What the ways out of a piece of code ask. -/
def Out (E : Entry) (K : Ex → LS → Prop) : Exit → Act → World → Prop := fun e a w => match e with
  | .normal => ∃ s, K .normal s ∧ E.n0 ≤ s.H.length ∧ ∃ ρ A, SatL E s a w ρ A
  | .exit i => ∃ s, K (.exit i) s ∧ E.n0 ≤ s.H.length ∧ ∃ ρ A, SatL E s a w ρ A
  | .ret => ∃ s, K .ret s ∧ E.n0 ≤ s.H.length ∧ ∃ ρ A, SatL E s a w ρ A
  | _ => False

theorem forceS_out {K : LS → Prop} (h : forceS s K) : K s := by
  obtain ⟨env, H, F0, NF⟩ := s
  have h := mapOK_out (mapK_out h)
  simpa using h

theorem out_panic {K : Ex → LS → Prop} : ∀ c a w, ¬ Out E K (.panic c) a w := fun _ _ _ h => h
theorem out_lets {K : Ex → LS → Prop} : ¬ LetsOut (Out E K) := fun ⟨_, _, h⟩ => h

theorem vc_in (r : Option Nat) (hmix : P.follows .mixedOrders = true) (hT : TOk P T) (hC : COk P C) (hn0 : E.At n0 C) : ∀ (c : Code) (s : LS) (a : Act) (w : World) (ρ : Nat → Nat) (A : FA) (K : Ex → LS → Prop), (r = none ∨ noDef c = true) → E.n0 ≤ s.H.length → SatL E s a w ρ A → vc T C n0 c s K → c.wpIn (FR r) 0 P (Out E K) a w := by
  intro c
  induction c with
  | skip => intro s a w ρ A K _ hle hs h; exact wpIn_skip ⟨s, h, hle, ρ, A, hs⟩
  | region id ops draw =>
    intro s a w ρ A K hd hle hs h
    have hd : r = none ∨ ops.toList.all noDefO = true := hd
    unfold vc at h
    split at h
    · rename_i hdr
      subst hdr
      exact wpIn_region_any hmix (any_in out_lets hd (h.out P _ E a w ρ A hT hC hn0 hle hs (fun s' a' w' ρ' A' hK hl hs' => ⟨s', hK, hl, ρ', A', hs'⟩) out_panic out_lets))
    · rename_i hdr
      have hdr : draw = false := by simpa using hdr
      subst hdr
      exact wpIn_region_list (list_in out_lets hd (vcOps_sound hT hC hn0 (fun s' a' w' ρ' A' hK hl hs' => ⟨s', hK, hl, ρ', A', hs'⟩) _ s a w ρ A hle hs h))
  | seq x y ihx ihy =>
    intro s a w ρ A K hd hle hs h
    have hd1 : r = none ∨ noDef x = true := hd.imp id fun h => by simp only [noDef, Bool.and_eq_true] at h; exact h.1
    have hd2 : r = none ∨ noDef y = true := hd.imp id fun h => by simp only [noDef, Bool.and_eq_true] at h; exact h.2
    unfold vc at h
    refine wpIn_seq (wpIn_mono (ihx s a w ρ A _ hd1 hle hs h) ?_)
    intro e a' w' hq
    cases e with
    | normal => obtain ⟨s', h1, h2, ρ', A', h3⟩ := hq; exact ihy s' a' w' ρ' A' K hd2 h2 h3 h1
    | exit i => obtain ⟨s', h1, h2, ρ', A', h3⟩ := hq; exact ⟨s', h1, h2, ρ', A', h3⟩
    | ret => obtain ⟨s', h1, h2, ρ', A', h3⟩ := hq; exact ⟨s', h1, h2, ρ', A', h3⟩
    | _ => exact hq.elim
  | cond c x y ihx ihy =>
    intro s a w ρ A K hd hle hs h
    have hd1 : r = none ∨ noDef x = true := hd.imp id fun h => by simp only [noDef, Bool.and_eq_true] at h; exact h.1
    have hd2 : r = none ∨ noDef y = true := hd.imp id fun h => by simp only [noDef, Bool.and_eq_true] at h; exact h.2
    unfold vc at h
    split at h
    · rename_i b hb
      have hr := ev_rep hs c
      rw [hb] at hr
      have hv : a.eval c = .bool b := by
        revert hr
        generalize a.eval c = v
        intro hr
        cases hr; rfl
      have h := brK_out h
      exact wpIn_cond_split hv (fun e => ihx s a w ρ A K hd1 hle hs (setC_out (by rw [hb, e]) (h.1 e))) (fun e => ihy s a w ρ A K hd2 hle hs (setC_out (by rw [hb, e]) (h.2 e)))
    · exact h.elim
  | block id c ih =>
    intro s a w ρ A K hd hle hs h
    unfold vc at h
    refine wpIn_block (wpIn_mono (ih s a w ρ A _ hd hle hs h) ?_)
    intro e a' w' hq
    cases e with
    | normal => exact hq
    | exit i =>
      obtain ⟨s', h1, h2, ρ', A', h3⟩ := hq
      show if i = id then _ else _
      simp only at h1
      split
      · rename_i hi; rw [if_pos hi] at h1; exact ⟨s', h1, h2, ρ', A', h3⟩
      · rename_i hi; rw [if_neg hi] at h1; exact ⟨s', h1, h2, ρ', A', h3⟩
    | ret => exact hq
    | _ => exact hq.elim
  | loop c ih =>
    intro s a w ρ A K hd hle hs h
    unfold vc at h
    obtain ⟨ι, mk, J, m, ⟨g, σ, hJ, hL⟩, hround⟩ := h
    obtain ⟨hs1, hle1⟩ := LeS_sound hL hn0.1 hs
    have h0 := hn0.1
    refine wpIn_loop_ghost (fun n a w => ∃ g ρ A, J g ∧ m g = n ∧ E.n0 ≤ (mk g).H.length ∧ SatL E (mk g) a w ρ A) (m g) ⟨g, _, A, hJ, rfl, by omega, hs1⟩ ?_
    rintro n a w ⟨g, ρ, A, hJ, hm, hle, hs⟩
    refine wpIn_mono (ih (mk g) a w ρ A _ hd hle hs (forceS_out (hround g hJ))) ?_
    intro e a' w' hq
    cases e with
    | normal =>
      obtain ⟨s', ⟨g', σ, hJ', hlt, hL'⟩, h2, ρ', A', h3⟩ := hq
      obtain ⟨hs1, hle1⟩ := LeS_sound hL' hn0.1 h3
      exact ⟨m g', by omega, g', _, A', hJ', rfl, by omega, hs1⟩
    | exit i => exact hq
    | ret => exact hq
    | _ => exact hq.elim
  | exit i => intro s a w ρ A K _ hle hs h; exact wpIn_exit ⟨s, h, hle, ρ, A, hs⟩
  | ret => intro s a w ρ A K _ hle hs h; exact wpIn_ret ⟨s, h, hle, ρ, A, hs⟩
  | rangeFunc g ps x y =>
    intro s a w ρ A K hd hle hs h
    have hr : r = none := hd.resolve_right (by simp [noDef])
    subst hr
    unfold vc at h
    refine h.out P _ E a w ρ A hT hC hmix hn0 hle hs fun e s' a' w' ρ' A' hK hl hs' => ?_
    cases e <;> exact ⟨s', hK, hl, ρ', A', hs'⟩
  | _ => intros; rename_i h; exact h.elim
theorem vc_sound (hmix : P.follows .mixedOrders = true) (hT : TOk P T) (hC : COk P C) (hn0 : E.At n0 C) (c : Code) (s : LS) (a : Act) (w : World) (ρ : Nat → Nat) (A : FA) (K : Ex → LS → Prop) (hle : E.n0 ≤ s.H.length) (hs : SatL E s a w ρ A) (h : vc T C n0 c s K) : c.wpIn Fence.wide 0 P (Out E K) a w :=
  vc_in none hmix hT hC hn0 c s a w ρ A K (.inl rfl) hle hs h
end Go.Vc
