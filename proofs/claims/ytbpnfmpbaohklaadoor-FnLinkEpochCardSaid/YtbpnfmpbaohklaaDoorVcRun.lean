/-
The condition of a whole body is enough.
No conditions.
-/
import Derived.Test.YtbpnfmpbaohklaaDoorVcLoop
namespace Go.Vc
variable {P : Program} {T : TT} {C : CT} {E : Entry} {w : World} {ρ : Nat → Nat} {A : FA} {s : LS} {a : Act} {o : Oper} {n0 : Nat} {Q : Exit → Act → World → Prop}

theorem ag_self {H : Nat → AO} {k : Option Nat} : Ag (ctxOf E H w ρ A) k w := ⟨fun _ _ => rfl, fun _ _ => rfl⟩

theorem vcOp_sound (hT : TOk P T) (hC : COk P C) (hn0 : E.n0 = n0) (hle : E.n0 ≤ s.H.length) (hs : SatL E s a w ρ A) {pk : List Nat} {K : LS → Prop} (h : vcOp T C n0 pk o s K) : o.wp P a w (Post E s ρ w pk K) Q := by
  have hmem : ∀ {s' : LS}, SatL E s' a w ρ A → E.n0 ≤ s'.H.length → (memA T (listH s'.H) s'.ev s'.H.length o.op fun e => offP pk (tchL e) (effK s' o.dst e K)) → o.wp P a w (Post E s' ρ w pk K) Q :=
    fun hs' hle' h => mem_post hle' (memA_sound hs' hle' (listH_dead (Nat.le_refl _)) hT (ev_rep hs') h)
  have haux : (auxA T (listH s.H) s.ev o.op fun x => putK s o.dst x K) → o.wp P a w (Post E s ρ w pk K) Q := by
    intro h
    obtain ⟨v, x, hK, hr, hrun⟩ := auxA_sound hT hs.obj (ev_rep hs) h
    exact value_post hs hle (hrun w) hr hK
  have hval : (valA T (listH s.H) (s.F0 ++ s.NF) o.op (o.op.operands.toList.map s.ev) fun x => putK s o.dst x K) → o.wp P a w (Post E s ρ w pk K) Q := by
    intro h
    obtain ⟨v, x, hK, hr, hrun⟩ := valA_sound hs.toSatW hT (ev_rep hs) h
    exact value_post hs hle (hrun w ag_self) hr hK
  have hfrz : (frzK n0 pk (frzOf s o.op) s fun s => memA T (listH s.H) s.ev s.H.length o.op fun e => offP pk (tchL e) (effK s o.dst e K)) → o.wp P a w (Post E s ρ w pk K) Q := by
    intro h
    obtain ⟨s', h1, h2, h3, h4, h5⟩ := frzK_out hn0 h hs
    refine wp_mono_next ?_ (hmem h2 (by omega) h1)
    rintro a' w' ⟨s'', g1, g2, ρ', A', g3, g4⟩
    exact ⟨s'', g1, g2, ρ', A', g3, h5.trans g4⟩
  unfold vcOp at h
  split at h
  all_goals first
    | exact h.elim
    | exact hmem hs hle h
    | exact hfrz h
    | exact haux h
    | exact callK_sound hs hC hn0 hle ‹_› rfl h
    | exact hval h
    | skip
  case _ t args ats hop =>
    split at h
    case h_2 => exact h.elim
    case h_1 f x y heq =>
      obtain ⟨rfl, rfl, h⟩ := h
      refine callK_sound hs hC hn0 hle hop ?_ h
      have hr := hs.env t
      have heq : s.toF.env t = .val (.func (.func f) #[] #[]) := heq
      rw [heq] at hr
      show a.tmps.getD t undef = _
      revert hr
      generalize a.tmps.getD t undef = v
      intro hr
      cases hr
      rfl

/-- What a guard says of the abstract state, and of the run. -/
theorem vcG_cases {ops : Array Oper} {X : LS → (LS → Prop) → Prop} {K : LS → Prop} (hs : SatL E s a w ρ A) (h : vcG ops o X s K) :
    (Region.wanted o (yielded ops a.tmps) = true ∧ X s K) ∨ (Region.wanted o (yielded ops a.tmps) = false ∧ putK s o.dst (.val (.tuple #[])) K) := by
  unfold vcG at h
  split at h
  · rename_i hg
    exact .inl ⟨by simp [Region.wanted, hg], h⟩
  · rename_i j want hg
    split at h
    · exact h.elim
    · rename_i d hd
      split at h
      · rename_i b hb
        have hr := hs.env d
        have hb' : s.toF.env d = .val (.bool b) := hb
        rw [hb'] at hr
        have hv : a.tmps.getD d undef = .bool b := by
          revert hr
          generalize a.tmps.getD d undef = v
          intro hr
          cases hr; rfl
        have hv' : a.tmps[d]? = some (.bool b) := by
          rw [Array.getD_eq_getD_getElem?] at hv
          cases hx : a.tmps[d]? with
          | none => rw [hx] at hv; simp [undef] at hv
          | some x => rw [hx] at hv; simpa using hv
        have hy : yielded ops a.tmps j = some b := by simp [yielded, hd, hv']
        have hw : Region.wanted o (yielded ops a.tmps) = decide (b = want) := by
          simp only [Region.wanted, hg, hy]
          by_cases e : b = want <;> simp [e]
        have h := brK_out h
        rw [hw]
        cases b with
        | true =>
          have h1 := setB_out hb (h.1 rfl)
          cases want with
          | true => exact .inl ⟨rfl, h1⟩
          | false => exact .inr ⟨rfl, h1⟩
        | false =>
          have h1 := setB_out hb (h.2 rfl)
          cases want with
          | true => exact .inr ⟨rfl, h1⟩
          | false => exact .inl ⟨rfl, h1⟩
      · rename_i us hb
        have hr := hs.env d
        have hb' : s.toF.env d = .val (.tuple us) := hb
        rw [hb'] at hr
        have hv : a.tmps.getD d undef = .tuple us := by
          revert hr
          generalize a.tmps.getD d undef = v
          intro hr
          cases hr; rfl
        have hy : yielded ops a.tmps j = none := by
          simp only [yielded, hd, Option.bind_some]
          rw [Array.getD_eq_getD_getElem?] at hv
          cases hx : a.tmps[d]? with
          | none => rfl
          | some x =>
            rw [hx] at hv
            have hv : x = .tuple us := hv
            subst hv
            rfl
        exact .inr ⟨by simp [Region.wanted, hg, hy], h⟩
      · exact h.elim

theorem vcOps_sound (hT : TOk P T) (hC : COk P C) (hn0 : E.n0 = n0) {ops : Array Oper} {K : LS → Prop} (hQ : ∀ s' a' w' ρ' A', K s' → E.n0 ≤ s'.H.length → SatL E s' a' w' ρ' A' → Q .normal a' w') :
    ∀ (l : List Oper) (s : LS) (a : Act) (w : World) (ρ : Nat → Nat) (A : FA), E.n0 ≤ s.H.length → SatL E s a w ρ A → vcOps T C n0 ops l s K → wpList P ops Q l a w := by
  intro l
  induction l with
  | nil => intro s a w ρ A hle hs h; exact hQ s a w ρ A h hle hs
  | cons o r ih =>
    intro s a w ρ A hle hs h
    unfold wpList
    unfold vcOps at h
    rcases vcG_cases hs h with ⟨hw, h⟩ | ⟨hw, h⟩
    · rw [if_pos hw]
      refine .inl (Oper.wp_mono (K := Post E s ρ w [] fun s => vcOps T C n0 ops r s K) ?_ (vcOp_sound hT hC hn0 hle hs h))
      rintro a' w' ⟨s', h1, h2, ρ', A', h3, _⟩
      exact ih s' a' w' ρ' A' h2 h3 h1
    · rw [if_neg (by rw [hw]; simp)]
      obtain ⟨s', h1, h2, h3, h4⟩ := putK_out h
      refine ih s' _ w ρ A (by rw [h4]; exact hle) ?_ h1
      unfold SatL
      rw [h2, h3]
      exact Sat.put hs o.dst (.val _)

/-- What the ways out of a piece of code ask. -/
def Out (E : Entry) (K : Ex → LS → Prop) : Exit → Act → World → Prop := fun e a w => match e with
  | .normal => ∃ s, K .normal s ∧ E.n0 ≤ s.H.length ∧ ∃ ρ A, SatL E s a w ρ A
  | .exit i => ∃ s, K (.exit i) s ∧ E.n0 ≤ s.H.length ∧ ∃ ρ A, SatL E s a w ρ A
  | .ret => ∃ s, K .ret s ∧ E.n0 ≤ s.H.length ∧ ∃ ρ A, SatL E s a w ρ A
  | _ => False

theorem forceS_out {K : LS → Prop} (h : forceS s K) : K s := by
  obtain ⟨env, H, F0, NF⟩ := s
  have h := mapOK_out (mapK_out h)
  simpa using h

theorem vc_sound (hmix : P.follows .mixedOrders = true) (hT : TOk P T) (hC : COk P C) (hn0 : E.n0 = n0) : ∀ (c : Code) (s : LS) (a : Act) (w : World) (ρ : Nat → Nat) (A : FA) (K : Ex → LS → Prop), E.n0 ≤ s.H.length → SatL E s a w ρ A → vc T C n0 c s K → c.wp P (Out E K) a w := by
  intro c
  induction c with
  | skip => intro s a w ρ A K hle hs h; exact wp_skip ⟨s, h, hle, ρ, A, hs⟩
  | region id ops draw =>
    intro s a w ρ A K hle hs h
    unfold vc at h
    split at h
    · rename_i hd
      subst hd
      exact h.out P _ E a w ρ A hT hC hn0 hle hs (fun s' a' w' ρ' A' hK hl hs' => ⟨s', hK, hl, ρ', A', hs'⟩) hmix
    · rename_i hd
      have hd : draw = false := by simpa using hd
      subst hd
      exact wp_region_list (vcOps_sound hT hC hn0 (fun s' a' w' ρ' A' hK hl hs' => ⟨s', hK, hl, ρ', A', hs'⟩) _ s a w ρ A hle hs h)
  | seq x y ihx ihy =>
    intro s a w ρ A K hle hs h
    unfold vc at h
    refine wp_seq (Code.wp_mono ?_ (ihx s a w ρ A _ hle hs h))
    intro e a' w' hq
    cases e with
    | normal => obtain ⟨s', h1, h2, ρ', A', h3⟩ := hq; exact ihy s' a' w' ρ' A' K h2 h3 h1
    | exit i => obtain ⟨s', h1, h2, ρ', A', h3⟩ := hq; exact ⟨s', h1, h2, ρ', A', h3⟩
    | ret => obtain ⟨s', h1, h2, ρ', A', h3⟩ := hq; exact ⟨s', h1, h2, ρ', A', h3⟩
    | _ => exact hq.elim
  | cond c x y ihx ihy =>
    intro s a w ρ A K hle hs h
    unfold vc at h
    split at h
    · rename_i b hb
      have hr := ev_rep hs c
      rw [hb] at hr
      have hv : a.eval c = .bool b := by
        revert hr
        generalize a.eval c = v
        intro hr
        cases hr; rfl
      have h := brK_out h
      exact wp_cond_split hv (fun e => ihx s a w ρ A K hle hs (setC_out (by rw [hb, e]) (h.1 e))) (fun e => ihy s a w ρ A K hle hs (setC_out (by rw [hb, e]) (h.2 e)))
    · exact h.elim
  | block id c ih =>
    intro s a w ρ A K hle hs h
    unfold vc at h
    refine wp_block (Code.wp_mono ?_ (ih s a w ρ A _ hle hs h))
    intro e a' w' hq
    cases e with
    | normal => exact hq
    | exit i =>
      obtain ⟨s', h1, h2, ρ', A', h3⟩ := hq
      show if i = id then _ else _
      simp only at h1
      split
      · rename_i hi; rw [if_pos hi] at h1; exact ⟨s', h1, h2, ρ', A', h3⟩
      · rename_i hi; rw [if_neg hi] at h1; exact ⟨s', h1, h2, ρ', A', h3⟩
    | ret => exact hq
    | _ => exact hq.elim
  | loop c ih =>
    intro s a w ρ A K hle hs h
    unfold vc at h
    obtain ⟨ι, mk, J, m, ⟨g, σ, hJ, hL⟩, hround⟩ := h
    obtain ⟨hs1, hle1⟩ := LeS_sound hL hn0 hs
    refine wp_loop_ghost (fun n a w => ∃ g ρ A, J g ∧ m g = n ∧ E.n0 ≤ (mk g).H.length ∧ SatL E (mk g) a w ρ A) (m g) ⟨g, _, A, hJ, rfl, by omega, hs1⟩ ?_
    rintro n a w ⟨g, ρ, A, hJ, hm, hle, hs⟩
    refine Code.wp_mono ?_ (ih (mk g) a w ρ A _ hle hs (forceS_out (hround g hJ)))
    intro e a' w' hq
    cases e with
    | normal =>
      obtain ⟨s', ⟨g', σ', hJ', hlt, hL'⟩, h2, ρ', A', h3⟩ := hq
      obtain ⟨hs1, hle1⟩ := LeS_sound hL' hn0 h3
      exact ⟨m g', by omega, g', _, A', hJ', rfl, by omega, hs1⟩
    | exit i => exact hq
    | ret => exact hq
    | _ => exact hq.elim
  | exit i => intro s a w ρ A K hle hs h; exact wp_exit ⟨s, h, hle, ρ, A, hs⟩
  | ret => intro s a w ρ A K hle hs h; exact wp_ret ⟨s, h, hle, ρ, A, hs⟩
  | _ => intros; rename_i h; exact h.elim
end Go.Vc
