/-
A body cut several times: each part's condition up to a state that a chosen form describes.
No conditions.
-/
import Derived.Test.YtlhbdhccddadaaaDoorVcCut
namespace Go.Vc
variable {P : Program} {T : TT} {C : CT} {E : Entry} {n0 : Nat}

/-- What follows from region r on, piece by piece. -/
def sufL (r : Nat) : Code → Option (List Code)
  | .seq x y => if headReg y = some r then some [y] else match sufL r y with
    | some q => some q
    | none => match sufL r x with
      | some q => some (q ++ [y])
      | none => none
  | _ => none
def sufLL (r : Nat) : List Code → Option (List Code)
  | [] => none
  | c :: cs => match sufL r c with
    | some q => some (q ++ cs)
    | none => if cs.head?.bind headReg = some r then some cs else sufLL r cs
def vcCutC (T : TT) (C : CT) (n0 r : Nat) (M : LS → Prop) : Code → LS → (Ex → LS → Prop) → Prop
  | .seq x y, s, K => if headReg y = some r then vc T C n0 x s fun e s => match e with
      | .normal => M s
      | e => K e s
    else match sufL r y with
    | some _ => vc T C n0 x s fun e s => match e with
      | .normal => vcCutC T C n0 r M y s K
      | e => K e s
    | none => vcCutC T C n0 r M x s fun e s => match e with
      | .normal => vc T C n0 y s K
      | e => K e s
  | _, _, _ => False
def vcL (T : TT) (C : CT) (n0 : Nat) : List Code → LS → (Ex → LS → Prop) → Prop
  | [], s, K => K .normal s
  | c :: cs, s, K => vc T C n0 c s fun e s => match e with
    | .normal => vcL T C n0 cs s K
    | e => K e s
def vcCutL (T : TT) (C : CT) (n0 r : Nat) (M : LS → Prop) : List Code → LS → (Ex → LS → Prop) → Prop
  | [], _, _ => False
  | c :: cs, s, K => match sufL r c with
    | some _ => vcCutC T C n0 r M c s fun e s => match e with
      | .normal => vcL T C n0 cs s K
      | e => K e s
    | none => if cs.head?.bind headReg = some r then vc T C n0 c s fun e s => match e with
        | .normal => M s
        | e => K e s
      else vc T C n0 c s fun e s => match e with
        | .normal => vcCutL T C n0 r M cs s K
        | e => K e s
/-- The condition of pieces that are cut ahead of each of the regions. -/
def vcCuts (T : TT) (C : CT) (n0 : Nat) : List Nat → List Code → LS → (Ex → LS → Prop) → Prop
  | [], ys, s, K => forceS s fun s => vcL T C n0 ys s K
  | r :: rs, ys, s, K => match sufLL r ys with
    | none => False
    | some zs => ∃ (ι : Type) (mk : ι → LS) (J : ι → Prop), (forceS s fun s => vcCutL T C n0 r (Form n0 mk J) ys s K) ∧ ∀ g, J g → vcCuts T C n0 rs zs (mk g) K
theorem cuts_step {r : Nat} {rs : List Nat} {ys zs : List Code} {s : LS} {K : Ex → LS → Prop} (hz : sufLL r ys = some zs) {ι : Type} (mk : ι → LS) (J : ι → Prop)
    (h1 : forceS s fun s => vcCutL T C n0 r (Form n0 mk J) ys s K) (h2 : ∀ g, J g → vcCuts T C n0 rs zs (mk g) K) : vcCuts T C n0 (r :: rs) ys s K := by
  unfold vcCuts
  rw [hz]
  exact ⟨ι, mk, J, h1, h2⟩

def wpL (P : Program) : List Code → (Exit → Act → World → Prop) → Act → World → Prop
  | [], Q => Q .normal
  | c :: cs, Q => fun a w => c.wpIn Fence.wide 0 P (Exit.then (wpL P cs Q) Q) a w
theorem then_mono {X X' : Act → World → Prop} {Q Q' : Exit → Act → World → Prop} (hX : ∀ a w, X a w → X' a w) (hQ : ∀ e a w, Q e a w → Q' e a w) : ∀ e a w, Exit.then X Q e a w → Exit.then X' Q' e a w := by
  intro e a w h
  cases e with
  | normal => exact hX a w h
  | _ => exact hQ _ a w h
theorem wpL_mono : ∀ {ys : List Code} {Q Q' : Exit → Act → World → Prop}, (∀ e a w, Q e a w → Q' e a w) → ∀ a w, wpL P ys Q a w → wpL P ys Q' a w
  | [], _, _, hQ, a, w, h => hQ _ a w h
  | _ :: _, _, _, hQ, _, _, h => wpIn_mono h fun e a w => then_mono (wpL_mono hQ) hQ e a w
theorem wpL_one {y : Code} {Q : Exit → Act → World → Prop} {a : Act} {w : World} (h : wpL P [y] Q a w) : y.wpIn Fence.wide 0 P Q a w :=
  wpIn_mono h fun e a w h => by cases e <;> exact h
theorem then_then {X : Act → World → Prop} {Y : Act → World → Prop} {Q : Exit → Act → World → Prop} : Exit.then X (Exit.then Y Q) = Exit.then X Q := by
  funext e a w
  cases e <;> rfl
theorem wpL_app : ∀ {q cs : List Code} {Q : Exit → Act → World → Prop}, wpL P (q ++ cs) Q = wpL P q (Exit.then (wpL P cs Q) Q)
  | [], cs, Q => rfl
  | c :: q, cs, Q => by
    funext a w
    show c.wpIn Fence.wide 0 P (Exit.then (wpL P (q ++ cs) Q) Q) a w = c.wpIn Fence.wide 0 P (Exit.then (wpL P q (Exit.then (wpL P cs Q) Q)) (Exit.then (wpL P cs Q) Q)) a w
    rw [wpL_app, then_then]

theorem out_then {K : Ex → LS → Prop} {X : Act → World → Prop} {Q : Exit → Act → World → Prop} {M : LS → Prop} (hM : ∀ s a w ρ A, M s → E.n0 ≤ s.H.length → SatL E s a w ρ A → X a w) (hQ : ∀ e a w, Out E K e a w → Q e a w) :
    ∀ e a w, Out E (fun e s => match e with
      | .normal => M s
      | e => K e s) e a w → Exit.then X Q e a w := by
  intro e a w h
  cases e with
  | normal =>
    obtain ⟨s, h1, h2, ρ, A, h3⟩ := h
    exact hM s a w ρ A h1 h2 h3
  | exit i => exact hQ (.exit i) a w h
  | ret => exact hQ .ret a w h
  | _ => exact h.elim

theorem vcL_sound (hmix : P.follows .mixedOrders = true) (hT : TOk P T) (hC : COk P C) (hn0 : E.At n0 C) {K : Ex → LS → Prop} :
    ∀ (ys : List Code) (s : LS) (a : Act) (w : World) (ρ : Nat → Nat) (A : FA), E.n0 ≤ s.H.length → SatL E s a w ρ A → vcL T C n0 ys s K → wpL P ys (Out E K) a w
  | [], s, _, _, ρ, A, hle, hs, h => ⟨s, h, hle, ρ, A, hs⟩
  | c :: cs, s, a, w, ρ, A, hle, hs, h =>
    wpIn_mono (vc_sound hmix hT hC hn0 c s a w ρ A _ hle hs h) (out_then (fun s a w ρ A h1 h2 h3 => vcL_sound hmix hT hC hn0 cs s a w ρ A h2 h3 h1) fun _ _ _ h => h)

theorem cutC_sound (hmix : P.follows .mixedOrders = true) (hT : TOk P T) (hC : COk P C) (hn0 : E.At n0 C) {r : Nat} {M : LS → Prop} :
    ∀ (c : Code) (q : List Code) (s : LS) (a : Act) (w : World) (ρ : Nat → Nat) (A : FA) (K : Ex → LS → Prop) (Q : Exit → Act → World → Prop), sufL r c = some q → E.n0 ≤ s.H.length → SatL E s a w ρ A → vcCutC T C n0 r M c s K →
      (∀ s a w ρ A, M s → E.n0 ≤ s.H.length → SatL E s a w ρ A → wpL P q Q a w) → (∀ e a w, Out E K e a w → Q e a w) → c.wpIn Fence.wide 0 P Q a w := by
  intro c
  induction c with
  | seq x z ihx ihz =>
    intro q s a w ρ A K Q hq hle hs h hM hQ
    unfold vcCutC at h
    unfold sufL at hq
    by_cases hh : headReg z = some r
    · rw [if_pos hh] at h hq
      obtain rfl : [z] = q := Option.some.inj hq
      exact wpIn_seq (wpIn_mono (vc_sound hmix hT hC hn0 x s a w ρ A _ hle hs h) (out_then (fun s a w ρ A h1 h2 h3 => wpL_one (hM s a w ρ A h1 h2 h3)) hQ))
    · rw [if_neg hh] at h hq
      cases hz : sufL r z with
      | some q' =>
        rw [hz] at h hq
        obtain rfl : q' = q := Option.some.inj hq
        exact wpIn_seq (wpIn_mono (vc_sound hmix hT hC hn0 x s a w ρ A _ hle hs h) (out_then (fun s a w ρ A h1 h2 h3 => ihz q' s a w ρ A K Q hz h2 h3 h1 hM hQ) hQ))
      | none =>
        rw [hz] at h hq
        simp only at h hq
        cases hx : sufL r x with
        | none => rw [hx] at hq; cases hq
        | some q' =>
          rw [hx] at hq
          obtain rfl : q' ++ [z] = q := Option.some.inj hq
          refine wpIn_seq (ihx q' s a w ρ A _ (Exit.then (z.wpIn Fence.wide 0 P Q) Q) hx hle hs h (fun s a w ρ A h1 h2 h3 => ?_) ?_)
          · have := hM s a w ρ A h1 h2 h3
            rw [wpL_app] at this
            exact wpL_mono (then_mono (fun _ _ => wpL_one) fun _ _ _ h => h) a w this
          · exact out_then (fun s a w ρ A h1 h2 h3 => wpIn_mono (vc_sound hmix hT hC hn0 z s a w ρ A _ h2 h3 h1) hQ) hQ
  | _ => intros; rename_i h _ _; exact h.elim

theorem cutL_sound (hmix : P.follows .mixedOrders = true) (hT : TOk P T) (hC : COk P C) (hn0 : E.At n0 C) {r : Nat} {M : LS → Prop} {K : Ex → LS → Prop} {Q : Exit → Act → World → Prop} (hQ : ∀ e a w, Out E K e a w → Q e a w) :
    ∀ (ys zs : List Code) (s : LS) (a : Act) (w : World) (ρ : Nat → Nat) (A : FA), sufLL r ys = some zs → E.n0 ≤ s.H.length → SatL E s a w ρ A → vcCutL T C n0 r M ys s K →
      (∀ s a w ρ A, M s → E.n0 ≤ s.H.length → SatL E s a w ρ A → wpL P zs Q a w) → wpL P ys Q a w
  | [], zs, s, a, w, ρ, A, hz, hle, hs, h, hM => h.elim
  | c :: cs, zs, s, a, w, ρ, A, hz, hle, hs, h, hM => by
    unfold vcCutL at h
    unfold sufLL at hz
    show c.wpIn Fence.wide 0 P (Exit.then (wpL P cs Q) Q) a w
    cases hc : sufL r c with
    | some q =>
      rw [hc] at h hz
      simp only at h hz
      obtain rfl : q ++ cs = zs := Option.some.inj hz
      refine cutC_sound hmix hT hC hn0 c q s a w ρ A _ _ hc hle hs h (fun s a w ρ A h1 h2 h3 => ?_) ?_
      · have := hM s a w ρ A h1 h2 h3
        rw [wpL_app] at this
        exact this
      · exact out_then (fun s a w ρ A h1 h2 h3 => wpL_mono hQ a w (vcL_sound hmix hT hC hn0 cs s a w ρ A h2 h3 h1)) hQ
    | none =>
      rw [hc] at h hz
      simp only at h hz
      by_cases hh : cs.head?.bind headReg = some r
      · rw [if_pos hh] at h hz
        obtain rfl : cs = zs := Option.some.inj hz
        exact wpIn_mono (vc_sound hmix hT hC hn0 c s a w ρ A _ hle hs h) (out_then hM hQ)
      · rw [if_neg hh] at h hz
        exact wpIn_mono (vc_sound hmix hT hC hn0 c s a w ρ A _ hle hs h) (out_then (fun s a w ρ A h1 h2 h3 => cutL_sound hmix hT hC hn0 hQ cs zs s a w ρ A hz h2 h3 h1 hM) hQ)

theorem cuts_sound (hmix : P.follows .mixedOrders = true) (hT : TOk P T) (hC : COk P C) (hn0 : E.At n0 C) {K : Ex → LS → Prop} :
    ∀ (rs : List Nat) (ys : List Code) (s : LS) (a : Act) (w : World) (ρ : Nat → Nat) (A : FA), E.n0 ≤ s.H.length → SatL E s a w ρ A → vcCuts T C n0 rs ys s K → wpL P ys (Out E K) a w
  | [], ys, s, a, w, ρ, A, hle, hs, h => vcL_sound hmix hT hC hn0 ys s a w ρ A hle hs (forceS_out h)
  | r :: rs, ys, s, a, w, ρ, A, hle, hs, h => by
    unfold vcCuts at h
    cases hz : sufLL r ys with
    | none => rw [hz] at h; exact h.elim
    | some zs =>
      rw [hz] at h
      obtain ⟨ι, mk, J, h1, h2⟩ := h
      refine cutL_sound hmix hT hC hn0 (fun _ _ _ h => h) ys zs s a w ρ A hz hle hs (forceS_out h1) fun s' a' w' ρ' A' hF hle' hs' => ?_
      obtain ⟨g, σ, hJ, hL⟩ := hF
      obtain ⟨hs1, hle1⟩ := LeS_sound hL hn0.1 hs'
      have h0 := hn0.1
      exact cuts_sound hmix hT hC hn0 rs zs (mk g) a' w' _ _ (by omega) hs1 (h2 g hJ)

/-- The contract of a function from the conditions of the pieces of its body. -/
theorem keeps_of_cuts (hmix : P.follows .mixedOrders = true) (hT : TOk P T) (hC : COk P C) {f : FuncId} {fn : Func} {c : Code} {con : Con} {ntmps : Nat} {res : List ResultVar} (hf : P.funcs[f]? = some fn) (hb : fn.body = some c) (hnt : fn.ntmps = ntmps) (hres : fn.results.toList = res)
    (rs : List Nat) (h : ∀ aargs hs Fs K, con.C aargs hs Fs K → vcCuts T C hs.length rs [c] ⟨aargs ++ List.replicate (ntmps - aargs.length) .any, hs, Fs, []⟩ fun e s => match e with
      | .exit _ => False
      | _ => s.F0 = Fs ∧ finK T hs.length con res s K)
    (hfx : con.mode = 3 → C.fx = true := by first | exact fun _ => rfl | (intro h; exact absurd h (by decide))) : Keeps' P f con := by
  intro E args aargs hs Fs K hcon hlen hn0 hsat hargs hfxE
  have hv := h aargs hs Fs K hcon
  have hS : SatL E ⟨aargs ++ List.replicate (ntmps - aargs.length) .any, hs, Fs, []⟩ { tmps := args.toArray ++ Array.replicate (fn.ntmps - args.toArray.size) undef, defers := [] } E.w0 E.ρ0 E.A0 := by
    refine { (by simpa [LS.toF] using hsat : SatW E (listH hs) (Fs ++ []) E.w0 E.ρ0 E.A0) with env := fun t => ?_, tsize := by simp [hlen, hnt], defers := .nil }
    show RepV _ ((aargs ++ List.replicate (ntmps - aargs.length) AV.any).getD t .any) _
    by_cases ht : t < aargs.length
    · have h1 : aargs[t]? = some aargs[t] := List.getElem?_eq_getElem ht
      have h2 : args[t]? = some (args[t]'(by omega)) := List.getElem?_eq_getElem (by omega)
      have := hargs t _ _ h1 h2
      have e1 : (aargs ++ List.replicate (ntmps - aargs.length) AV.any).getD t .any = aargs[t] := by
        rw [List.getD, List.getElem?_append_left ht, h1]; rfl
      have e2 : (args.toArray ++ Array.replicate (fn.ntmps - args.toArray.size) undef).getD t undef = args[t]'(by omega) := by
        rw [Array.getD_eq_getD_getElem?, Array.getElem?_append_left (by simp; omega)]
        simp [h2]
      rw [e1, e2]; exact this
    · have e1 : (aargs ++ List.replicate (ntmps - aargs.length) AV.any).getD t .any = .any := by
        simp only [List.getD]
        rw [List.getElem?_append_right (by omega), List.getElem?_replicate]
        split <;> rfl
      rw [e1]; exact .any _
  exact callsIn_wide.1 (callsIn_of_wp_marks (n := 0) hf hb trivial (wpIn_mono (wpL_one (cuts_sound hmix hT hC ⟨hn0, fun h => hfx (hfxE h)⟩ rs [c] _ _ E.w0 E.ρ0 E.A0 (by simp [hn0]) hS hv)) fun e a' w' hq => by
    cases e with
    | normal =>
      obtain ⟨s', ⟨h1, h2⟩, h3, ρ', A', h4⟩ := hq
      exact leaves_of (fun a'' w'' ht h5 => by
        have := finK_sound hT hn0 hres (a := a'') h5 h2
        rw [h1, ht] at this
        exact this) a'.defers a' w' rfl rfl h4
    | ret =>
      obtain ⟨s', ⟨h1, h2⟩, h3, ρ', A', h4⟩ := hq
      exact leaves_of (fun a'' w'' ht h5 => by
        have := finK_sound hT hn0 hres (a := a'') h5 h2
        rw [h1, ht] at this
        exact this) a'.defers a' w' rfl rfl h4
    | exit i => obtain ⟨s', h1, _⟩ := hq; exact h1.elim
    | _ => exact hq.elim))
end Go.Vc
