/-
A body cut in two: the condition of the first part up to a state that a chosen form describes, and that of the rest from there.
No conditions.
-/
import Derived.Test.YtlhbdhccddadaaaDoorVcMF
namespace Go.Vc
variable {P : Program} {T : TT} {C : CT} {E : Entry} {w : World} {ρ : Nat → Nat} {A : FA} {s : LS} {a : Act} {n0 : Nat}

/-- The number of the region that a piece of code begins with. -/
def headReg : Code → Option Nat
  | .region id _ _ => some id
  | .seq x _ => headReg x
  | _ => none
/-- What follows from region r on. -/
def sufAt (r : Nat) : Code → Option Code
  | .seq x y => if headReg y = some r then some y else match sufAt r y with
    | some q => some q
    | none => match sufAt r x with
      | some q => some (.seq q y)
      | none => none
  | _ => none
/-- The condition of the part ahead of region r; M is asked there. -/
def vcCut (T : TT) (C : CT) (n0 r : Nat) (M : LS → Prop) : Code → LS → (Ex → LS → Prop) → Prop
  | .seq x y, s, K => if headReg y = some r then vc T C n0 x s fun e s => match e with
      | .normal => M s
      | e => K e s
    else match sufAt r y with
    | some _ => vc T C n0 x s fun e s => match e with
      | .normal => vcCut T C n0 r M y s K
      | e => K e s
    | none => vcCut T C n0 r M x s fun e s => match e with
      | .normal => vc T C n0 y s K
      | e => K e s
  | _, _, _ => False

/-- A state described by a chosen form. -/
def Form {ι : Type} (n0 : Nat) (mk : ι → LS) (J : ι → Prop) (s : LS) : Prop := ∃ g σ, J g ∧ LeS n0 σ (mk g) s

theorem vcCut_sound (hmix : P.follows .mixedOrders = true) (hT : TOk P T) (hC : COk P C) (hn0 : E.At n0 C) {r : Nat} {ι : Type} {mk : ι → LS} {J : ι → Prop} :
    ∀ (c y : Code) (s : LS) (a : Act) (w : World) (ρ : Nat → Nat) (A : FA) (K : Ex → LS → Prop), sufAt r c = some y → E.n0 ≤ s.H.length → SatL E s a w ρ A → vcCut T C n0 r (Form n0 mk J) c s K →
      (∀ g, J g → forceS (mk g) fun s => vc T C n0 y s K) → c.wpIn Fence.wide 0 P (Out E K) a w := by
  intro c
  induction c with
  | seq x z ihx ihz =>
    intro y s a w ρ A K hy hle hs h hrest
    unfold vcCut at h
    unfold sufAt at hy
    by_cases hh : headReg z = some r
    · rw [if_pos hh] at h hy
      obtain rfl : z = y := Option.some.inj hy
      refine wpIn_seq (wpIn_mono (vc_sound hmix hT hC hn0 x s a w ρ A _ hle hs h) ?_)
      intro e a' w' hq
      cases e with
      | normal =>
        obtain ⟨s', ⟨g, σ, hJ, hL⟩, h2, ρ', A', h3⟩ := hq
        obtain ⟨hs1, hle1⟩ := LeS_sound hL hn0.1 h3
        have h0 := hn0.1
        exact vc_sound hmix hT hC hn0 z _ a' w' _ _ K (by omega) hs1 (forceS_out (hrest g hJ))
      | exit i => exact hq
      | ret => exact hq
      | _ => exact hq.elim
    · rw [if_neg hh] at h hy
      cases hz : sufAt r z with
      | some q =>
        rw [hz] at h hy
        obtain rfl : q = y := Option.some.inj hy
        refine wpIn_seq (wpIn_mono (vc_sound hmix hT hC hn0 x s a w ρ A _ hle hs h) ?_)
        intro e a' w' hq
        cases e with
        | normal =>
          obtain ⟨s', h1, h2, ρ', A', h3⟩ := hq
          exact ihz q s' a' w' ρ' A' K hz h2 h3 h1 hrest
        | exit i => exact hq
        | ret => exact hq
        | _ => exact hq.elim
      | none =>
        rw [hz] at h hy
        simp only at h hy
        cases hx : sufAt r x with
        | none => rw [hx] at hy; cases hy
        | some q =>
          rw [hx] at hy
          obtain rfl : Code.seq q z = y := Option.some.inj hy
          refine wpIn_seq (wpIn_mono (ihx q s a w ρ A _ hx hle hs h fun g hJ => ?_) ?_)
          rotate_left
          · intro e a' w' hq
            cases e with
            | normal =>
              obtain ⟨s', h1, h2, ρ', A', h3⟩ := hq
              exact vc_sound hmix hT hC hn0 z s' a' w' ρ' A' K h2 h3 h1
            | exit i => exact hq
            | ret => exact hq
            | _ => exact hq.elim
          · have e : (fun s => vc T C n0 (q.seq z) s K) = fun s => vc T C n0 q s fun e s => match e with
                | .normal => vc T C n0 z s K
                | e => K e s := by
              funext s
              conv => lhs; unfold vc
              congr 1
              funext e s
              cases e <;> rfl
            rw [← e]
            exact hrest g hJ
  | _ => intros; rename_i h _; exact h.elim

/-- The condition of a body that is cut ahead of region r; y is what follows. -/
def bodyCut (T : TT) (C : CT) (con : Con) (ntmps : Nat) (res : List ResultVar) (c : Code) (r : Nat) (y : Code) (aargs : List AV) (hs : List AO) (Fs : List Fam) (K : AV → List AO → List Fam → Prop) : Prop :=
  ∃ (ι : Type) (mk : ι → LS) (J : ι → Prop), (vcCut T C hs.length r (Form hs.length mk J) c ⟨aargs ++ List.replicate (ntmps - aargs.length) .any, hs, Fs, []⟩ fun e s => match e with
    | .exit _ => False
    | _ => s.F0 = Fs ∧ finK T hs.length con res s K) ∧ ∀ g, J g → forceS (mk g) fun s => vc T C hs.length y s fun e s => match e with
    | .exit _ => False
    | _ => s.F0 = Fs ∧ finK T hs.length con res s K

/-- The contract of a function from the condition of its body, cut ahead of region r. -/
theorem keeps_of_cut (hmix : P.follows .mixedOrders = true) (hT : TOk P T) (hC : COk P C) {f : FuncId} {fn : Func} {c : Code} {con : Con} {ntmps : Nat} {res : List ResultVar} (hf : P.funcs[f]? = some fn) (hb : fn.body = some c) (hnt : fn.ntmps = ntmps) (hres : fn.results.toList = res)
    {r : Nat} {y : Code} (hy : sufAt r c = some y) (h : ∀ aargs hs Fs K, con.C aargs hs Fs K → bodyCut T C con ntmps res c r y aargs hs Fs K)
    (hfx : con.mode = 3 → C.fx = true := by first | exact fun _ => rfl | (intro h; exact absurd h (by decide))) : Keeps' P f con := by
  intro E args aargs hs Fs K hcon hlen hn0 hsat hargs hfxE
  obtain ⟨ι, mk, J, hv, hrest⟩ := h aargs hs Fs K hcon
  have hS : SatL E ⟨aargs ++ List.replicate (ntmps - aargs.length) .any, hs, Fs, []⟩ { tmps := args.toArray ++ Array.replicate (fn.ntmps - args.toArray.size) undef, defers := [] } E.w0 E.ρ0 E.A0 := by
    refine { (by simpa [LS.toF] using hsat : SatW E (listH hs) (Fs ++ []) E.w0 E.ρ0 E.A0) with env := fun t => ?_, tsize := by simp [hlen, hnt], defers := .nil }
    show RepV _ ((aargs ++ List.replicate (ntmps - aargs.length) AV.any).getD t .any) _
    by_cases ht : t < aargs.length
    · have h1 : aargs[t]? = some aargs[t] := List.getElem?_eq_getElem ht
      have h2 : args[t]? = some (args[t]'(by omega)) := List.getElem?_eq_getElem (by omega)
      have := hargs t _ _ h1 h2
      have e1 : (aargs ++ List.replicate (ntmps - aargs.length) AV.any).getD t .any = aargs[t] := by
        rw [List.getD, List.getElem?_append_left ht, h1]; rfl
      have e2 : (args.toArray ++ Array.replicate (fn.ntmps - args.toArray.size) undef).getD t undef = args[t]'(by omega) := by
        rw [Array.getD_eq_getD_getElem?, Array.getElem?_append_left (by simp; omega)]
        simp [h2]
      rw [e1, e2]; exact this
    · have e1 : (aargs ++ List.replicate (ntmps - aargs.length) AV.any).getD t .any = .any := by
        simp only [List.getD]
        rw [List.getElem?_append_right (by omega), List.getElem?_replicate]
        split <;> rfl
      rw [e1]; exact .any _
  exact callsIn_wide.1 (callsIn_of_wp_marks (n := 0) hf hb trivial (wpIn_mono (vcCut_sound hmix hT hC ⟨hn0, fun h => hfx (hfxE h)⟩ c y _ _ E.w0 E.ρ0 E.A0 _ hy (by simp [hn0]) hS hv hrest) fun e a' w' hq => by
    cases e with
    | normal =>
      obtain ⟨s', ⟨h1, h2⟩, h3, ρ', A', h4⟩ := hq
      exact leaves_of (fun a'' w'' ht h5 => by
        have := finK_sound hT hn0 hres (a := a'') h5 h2
        rw [h1, ht] at this
        exact this) a'.defers a' w' rfl rfl h4
    | ret =>
      obtain ⟨s', ⟨h1, h2⟩, h3, ρ', A', h4⟩ := hq
      exact leaves_of (fun a'' w'' ht h5 => by
        have := finK_sound hT hn0 hres (a := a'') h5 h2
        rw [h1, ht] at this
        exact this) a'.defers a' w' rfl rfl h4
    | exit i => obtain ⟨s', h1, _⟩ := hq; exact h1.elim
    | _ => exact hq.elim))
end Go.Vc
