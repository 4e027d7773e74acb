/-
Two contracts of one function as one: the caller chooses.
A body cut in two: the condition of the first part up to a state that a chosen form describes, and that of the rest from there.
A body cut several times: each part's condition up to a state that a chosen form describes.
What a library function that writes a row of numbers in place leaves, told by its shelf contract.
Objects with many cells of which only the first are written out: the steps where the evaluation of a condition stands still.
Methods found behind a pointer in an interface.
No conditions.
-/
import Derived.Test.YtkabnbjlglippaaDoorVcMF
import Derived.Test.YtkabnbjlglippaaDoorVcME
import Derived.Sort.Row
namespace Go.Vc
variable {P : Program}
/-- Either contract, by the caller's choice. -/
def Con.alt (a b : Con) : Con := ⟨a.nnew, a.mode, a.alias, fun xs hs Fs K => a.C xs hs Fs K ∨ b.C xs hs Fs K⟩
theorem ret_alt {E : Entry} {a b : Con} {Fs : List Fam} {K : AV → List AO → List Fam → Prop} {e : Ending} {w : World} (hn : b.nnew ≤ a.nnew) (ha : a.alias = b.alias) (h : Ret E b Fs K e w) : Ret E (a.alt b) Fs K e w := by
  obtain ⟨v, r, hs, nF, ρ, A, h1, h2, h3, h4, h5, h6, h7⟩ := h
  exact ⟨v, r, hs, nF, ρ, A, h1, h2, h3, h4, h5, by show hs.length ≤ E.n0 + a.nnew; omega, fun e => h7 (ha ▸ e)⟩
theorem keeps_alt {f : FuncId} {a b : Con} (ha : Keeps' P f a) (hb : Keeps' P f b) (hn : b.nnew ≤ a.nnew) (hl : a.alias = b.alias) (hm : a.mode = 3 → b.mode = 3 := by first | decide | exact id) : Keeps' P f (a.alt b) := by
  intro E args aargs hs Fs K hc h1 h2 h3 h4 hfx
  rcases hc with hc | hc
  · exact (ha E args aargs hs Fs K hc h1 h2 h3 h4 hfx).mono fun e w h => h
  · exact (hb E args aargs hs Fs K hc h1 h2 h3 h4 fun e => hm (hfx e)).mono fun e w h => ret_alt hn hl h
end Go.Vc
namespace Go.Vc
variable {P : Program} {T : TT} {C : CT} {E : Entry} {w : World} {ρ : Nat → Nat} {A : FA} {s : LS} {a : Act} {n0 : Nat}

/-- The number of the region that a piece of code begins with. -/
def headReg : Code → Option Nat
  | .region id _ _ => some id
  | .seq x _ => headReg x
  | _ => none
/-- What follows from region r on. -/
def sufAt (r : Nat) : Code → Option Code
  | .seq x y => if headReg y = some r then some y else match sufAt r y with
    | some q => some q
    | none => match sufAt r x with
      | some q => some (.seq q y)
      | none => none
  | _ => none
/-- The condition of the part ahead of region r; M is asked there. -/
def vcCut (T : TT) (C : CT) (n0 r : Nat) (M : LS → Prop) : Code → LS → (Ex → LS → Prop) → Prop
  | .seq x y, s, K => if headReg y = some r then vc T C n0 x s fun e s => match e with
      | .normal => M s
      | e => K e s
    else match sufAt r y with
    | some _ => vc T C n0 x s fun e s => match e with
      | .normal => vcCut T C n0 r M y s K
      | e => K e s
    | none => vcCut T C n0 r M x s fun e s => match e with
      | .normal => vc T C n0 y s K
      | e => K e s
  | _, _, _ => False

/-- A state described by a chosen form. -/
def Form {ι : Type} (n0 : Nat) (mk : ι → LS) (J : ι → Prop) (s : LS) : Prop := ∃ g σ, J g ∧ LeS n0 σ (mk g) s

theorem vcCut_sound (hmix : P.follows .mixedOrders = true) (hT : TOk P T) (hC : COk P C) (hn0 : E.At n0 C) {r : Nat} {ι : Type} {mk : ι → LS} {J : ι → Prop} :
    ∀ (c y : Code) (s : LS) (a : Act) (w : World) (ρ : Nat → Nat) (A : FA) (K : Ex → LS → Prop), sufAt r c = some y → E.n0 ≤ s.H.length → SatL E s a w ρ A → vcCut T C n0 r (Form n0 mk J) c s K →
      (∀ g, J g → forceS (mk g) fun s => vc T C n0 y s K) → c.wpIn Fence.wide 0 P (Out E K) a w := by
  intro c
  induction c with
  | seq x z ihx ihz =>
    intro y s a w ρ A K hy hle hs h hrest
    unfold vcCut at h
    unfold sufAt at hy
    by_cases hh : headReg z = some r
    · rw [if_pos hh] at h hy
      obtain rfl : z = y := Option.some.inj hy
      refine wpIn_seq (wpIn_mono (vc_sound hmix hT hC hn0 x s a w ρ A _ hle hs h) ?_)
      intro e a' w' hq
      cases e with
      | normal =>
        obtain ⟨s', ⟨g, σ, hJ, hL⟩, h2, ρ', A', h3⟩ := hq
        obtain ⟨hs1, hle1⟩ := LeS_sound hL hn0.1 h3
        have h0 := hn0.1
        exact vc_sound hmix hT hC hn0 z _ a' w' _ _ K (by omega) hs1 (forceS_out (hrest g hJ))
      | exit i => exact hq
      | ret => exact hq
      | _ => exact hq.elim
    · rw [if_neg hh] at h hy
      cases hz : sufAt r z with
      | some q =>
        rw [hz] at h hy
        obtain rfl : q = y := Option.some.inj hy
        refine wpIn_seq (wpIn_mono (vc_sound hmix hT hC hn0 x s a w ρ A _ hle hs h) ?_)
        intro e a' w' hq
        cases e with
        | normal =>
          obtain ⟨s', h1, h2, ρ', A', h3⟩ := hq
          exact ihz q s' a' w' ρ' A' K hz h2 h3 h1 hrest
        | exit i => exact hq
        | ret => exact hq
        | _ => exact hq.elim
      | none =>
        rw [hz] at h hy
        simp only at h hy
        cases hx : sufAt r x with
        | none => rw [hx] at hy; cases hy
        | some q =>
          rw [hx] at hy
          obtain rfl : Code.seq q z = y := Option.some.inj hy
          refine wpIn_seq (wpIn_mono (ihx q s a w ρ A _ hx hle hs h fun g hJ => ?_) ?_)
          rotate_left
          · intro e a' w' hq
            cases e with
            | normal =>
              obtain ⟨s', h1, h2, ρ', A', h3⟩ := hq
              exact vc_sound hmix hT hC hn0 z s' a' w' ρ' A' K h2 h3 h1
            | exit i => exact hq
            | ret => exact hq
            | _ => exact hq.elim
          · have e : (fun s => vc T C n0 (q.seq z) s K) = fun s => vc T C n0 q s fun e s => match e with
                | .normal => vc T C n0 z s K
                | e => K e s := by
              funext s
              conv => lhs; unfold vc
              congr 1
              funext e s
              cases e <;> rfl
            rw [← e]
            exact hrest g hJ
  | _ => intros; rename_i h _; exact h.elim

/-- The condition of a body that is cut ahead of region r; y is what follows. -/
def bodyCut (T : TT) (C : CT) (con : Con) (ntmps : Nat) (res : List ResultVar) (c : Code) (r : Nat) (y : Code) (aargs : List AV) (hs : List AO) (Fs : List Fam) (K : AV → List AO → List Fam → Prop) : Prop :=
  ∃ (ι : Type) (mk : ι → LS) (J : ι → Prop), (vcCut T C hs.length r (Form hs.length mk J) c ⟨aargs ++ List.replicate (ntmps - aargs.length) .any, hs, Fs, []⟩ fun e s => match e with
    | .exit _ => False
    | _ => s.F0 = Fs ∧ finK T hs.length con res s K) ∧ ∀ g, J g → forceS (mk g) fun s => vc T C hs.length y s fun e s => match e with
    | .exit _ => False
    | _ => s.F0 = Fs ∧ finK T hs.length con res s K

/-- The contract of a function from the condition of its body, cut ahead of region r. -/
theorem keeps_of_cut (hmix : P.follows .mixedOrders = true) (hT : TOk P T) (hC : COk P C) {f : FuncId} {fn : Func} {c : Code} {con : Con} {ntmps : Nat} {res : List ResultVar} (hf : P.funcs[f]? = some fn) (hb : fn.body = some c) (hnt : fn.ntmps = ntmps) (hres : fn.results.toList = res)
    {r : Nat} {y : Code} (hy : sufAt r c = some y) (h : ∀ aargs hs Fs K, con.C aargs hs Fs K → bodyCut T C con ntmps res c r y aargs hs Fs K)
    (hfx : con.mode = 3 → C.fx = true := by first | exact fun _ => rfl | (intro h; exact absurd h (by decide))) : Keeps' P f con := by
  intro E args aargs hs Fs K hcon hlen hn0 hsat hargs hfxE
  obtain ⟨ι, mk, J, hv, hrest⟩ := h aargs hs Fs K hcon
  have hS : SatL E ⟨aargs ++ List.replicate (ntmps - aargs.length) .any, hs, Fs, []⟩ { tmps := args.toArray ++ Array.replicate (fn.ntmps - args.toArray.size) undef, defers := [] } E.w0 E.ρ0 E.A0 := by
    refine { (by simpa [LS.toF] using hsat : SatW E (listH hs) (Fs ++ []) E.w0 E.ρ0 E.A0) with env := fun t => ?_, tsize := by simp [hlen, hnt], defers := .nil }
    show RepV _ ((aargs ++ List.replicate (ntmps - aargs.length) AV.any).getD t .any) _
    by_cases ht : t < aargs.length
    · have h1 : aargs[t]? = some aargs[t] := List.getElem?_eq_getElem ht
      have h2 : args[t]? = some (args[t]'(by omega)) := List.getElem?_eq_getElem (by omega)
      have := hargs t _ _ h1 h2
      have e1 : (aargs ++ List.replicate (ntmps - aargs.length) AV.any).getD t .any = aargs[t] := by
        rw [List.getD, List.getElem?_append_left ht, h1]; rfl
      have e2 : (args.toArray ++ Array.replicate (fn.ntmps - args.toArray.size) undef).getD t undef = args[t]'(by omega) := by
        rw [Array.getD_eq_getD_getElem?, Array.getElem?_append_left (by simp; omega)]
        simp [h2]
      rw [e1, e2]; exact this
    · have e1 : (aargs ++ List.replicate (ntmps - aargs.length) AV.any).getD t .any = .any := by
        simp only [List.getD]
        rw [List.getElem?_append_right (by omega), List.getElem?_replicate]
        split <;> rfl
      rw [e1]; exact .any _
  exact callsIn_wide.1 (callsIn_of_wp_marks (n := 0) hf hb trivial (wpIn_mono (vcCut_sound hmix hT hC ⟨hn0, fun h => hfx (hfxE h)⟩ c y _ _ E.w0 E.ρ0 E.A0 _ hy (by simp [hn0]) hS hv hrest) fun e a' w' hq => by
    cases e with
    | normal =>
      obtain ⟨s', ⟨h1, h2⟩, h3, ρ', A', h4⟩ := hq
      exact leaves_of (fun a'' w'' ht h5 => by
        have := finK_sound hT hn0 hres (a := a'') h5 h2
        rw [h1, ht] at this
        exact this) a'.defers a' w' rfl rfl h4
    | ret =>
      obtain ⟨s', ⟨h1, h2⟩, h3, ρ', A', h4⟩ := hq
      exact leaves_of (fun a'' w'' ht h5 => by
        have := finK_sound hT hn0 hres (a := a'') h5 h2
        rw [h1, ht] at this
        exact this) a'.defers a' w' rfl rfl h4
    | exit i => obtain ⟨s', h1, _⟩ := hq; exact h1.elim
    | _ => exact hq.elim))
end Go.Vc
namespace Go.Vc
variable {P : Program} {T : TT} {C : CT} {E : Entry} {n0 : Nat}

/-- What follows from region r on, piece by piece. -/
def sufL (r : Nat) : Code → Option (List Code)
  | .seq x y => if headReg y = some r then some [y] else match sufL r y with
    | some q => some q
    | none => match sufL r x with
      | some q => some (q ++ [y])
      | none => none
  | _ => none
def sufLL (r : Nat) : List Code → Option (List Code)
  | [] => none
  | c :: cs => match sufL r c with
    | some q => some (q ++ cs)
    | none => if cs.head?.bind headReg = some r then some cs else sufLL r cs
def vcCutC (T : TT) (C : CT) (n0 r : Nat) (M : LS → Prop) : Code → LS → (Ex → LS → Prop) → Prop
  | .seq x y, s, K => if headReg y = some r then vc T C n0 x s fun e s => match e with
      | .normal => M s
      | e => K e s
    else match sufL r y with
    | some _ => vc T C n0 x s fun e s => match e with
      | .normal => vcCutC T C n0 r M y s K
      | e => K e s
    | none => vcCutC T C n0 r M x s fun e s => match e with
      | .normal => vc T C n0 y s K
      | e => K e s
  | _, _, _ => False
def vcL (T : TT) (C : CT) (n0 : Nat) : List Code → LS → (Ex → LS → Prop) → Prop
  | [], s, K => K .normal s
  | c :: cs, s, K => vc T C n0 c s fun e s => match e with
    | .normal => vcL T C n0 cs s K
    | e => K e s
def vcCutL (T : TT) (C : CT) (n0 r : Nat) (M : LS → Prop) : List Code → LS → (Ex → LS → Prop) → Prop
  | [], _, _ => False
  | c :: cs, s, K => match sufL r c with
    | some _ => vcCutC T C n0 r M c s fun e s => match e with
      | .normal => vcL T C n0 cs s K
      | e => K e s
    | none => if cs.head?.bind headReg = some r then vc T C n0 c s fun e s => match e with
        | .normal => M s
        | e => K e s
      else vc T C n0 c s fun e s => match e with
        | .normal => vcCutL T C n0 r M cs s K
        | e => K e s
/-- The condition of pieces that are cut ahead of each of the regions. -/
def vcCuts (T : TT) (C : CT) (n0 : Nat) : List Nat → List Code → LS → (Ex → LS → Prop) → Prop
  | [], ys, s, K => forceS s fun s => vcL T C n0 ys s K
  | r :: rs, ys, s, K => match sufLL r ys with
    | none => False
    | some zs => ∃ (ι : Type) (mk : ι → LS) (J : ι → Prop), (forceS s fun s => vcCutL T C n0 r (Form n0 mk J) ys s K) ∧ ∀ g, J g → vcCuts T C n0 rs zs (mk g) K
theorem cuts_step {r : Nat} {rs : List Nat} {ys zs : List Code} {s : LS} {K : Ex → LS → Prop} (hz : sufLL r ys = some zs) {ι : Type} (mk : ι → LS) (J : ι → Prop)
    (h1 : forceS s fun s => vcCutL T C n0 r (Form n0 mk J) ys s K) (h2 : ∀ g, J g → vcCuts T C n0 rs zs (mk g) K) : vcCuts T C n0 (r :: rs) ys s K := by
  unfold vcCuts
  rw [hz]
  exact ⟨ι, mk, J, h1, h2⟩

def wpL (P : Program) : List Code → (Exit → Act → World → Prop) → Act → World → Prop
  | [], Q => Q .normal
  | c :: cs, Q => fun a w => c.wpIn Fence.wide 0 P (Exit.then (wpL P cs Q) Q) a w
theorem then_mono {X X' : Act → World → Prop} {Q Q' : Exit → Act → World → Prop} (hX : ∀ a w, X a w → X' a w) (hQ : ∀ e a w, Q e a w → Q' e a w) : ∀ e a w, Exit.then X Q e a w → Exit.then X' Q' e a w := by
  intro e a w h
  cases e with
  | normal => exact hX a w h
  | _ => exact hQ _ a w h
theorem wpL_mono : ∀ {ys : List Code} {Q Q' : Exit → Act → World → Prop}, (∀ e a w, Q e a w → Q' e a w) → ∀ a w, wpL P ys Q a w → wpL P ys Q' a w
  | [], _, _, hQ, a, w, h => hQ _ a w h
  | _ :: _, _, _, hQ, _, _, h => wpIn_mono h fun e a w => then_mono (wpL_mono hQ) hQ e a w
theorem wpL_one {y : Code} {Q : Exit → Act → World → Prop} {a : Act} {w : World} (h : wpL P [y] Q a w) : y.wpIn Fence.wide 0 P Q a w :=
  wpIn_mono h fun e a w h => by cases e <;> exact h
theorem then_then {X : Act → World → Prop} {Y : Act → World → Prop} {Q : Exit → Act → World → Prop} : Exit.then X (Exit.then Y Q) = Exit.then X Q := by
  funext e a w
  cases e <;> rfl
theorem wpL_app : ∀ {q cs : List Code} {Q : Exit → Act → World → Prop}, wpL P (q ++ cs) Q = wpL P q (Exit.then (wpL P cs Q) Q)
  | [], cs, Q => rfl
  | c :: q, cs, Q => by
    funext a w
    show c.wpIn Fence.wide 0 P (Exit.then (wpL P (q ++ cs) Q) Q) a w = c.wpIn Fence.wide 0 P (Exit.then (wpL P q (Exit.then (wpL P cs Q) Q)) (Exit.then (wpL P cs Q) Q)) a w
    rw [wpL_app, then_then]

theorem out_then {K : Ex → LS → Prop} {X : Act → World → Prop} {Q : Exit → Act → World → Prop} {M : LS → Prop} (hM : ∀ s a w ρ A, M s → E.n0 ≤ s.H.length → SatL E s a w ρ A → X a w) (hQ : ∀ e a w, Out E K e a w → Q e a w) :
    ∀ e a w, Out E (fun e s => match e with
      | .normal => M s
      | e => K e s) e a w → Exit.then X Q e a w := by
  intro e a w h
  cases e with
  | normal =>
    obtain ⟨s, h1, h2, ρ, A, h3⟩ := h
    exact hM s a w ρ A h1 h2 h3
  | exit i => exact hQ (.exit i) a w h
  | ret => exact hQ .ret a w h
  | _ => exact h.elim

theorem vcL_sound (hmix : P.follows .mixedOrders = true) (hT : TOk P T) (hC : COk P C) (hn0 : E.At n0 C) {K : Ex → LS → Prop} :
    ∀ (ys : List Code) (s : LS) (a : Act) (w : World) (ρ : Nat → Nat) (A : FA), E.n0 ≤ s.H.length → SatL E s a w ρ A → vcL T C n0 ys s K → wpL P ys (Out E K) a w
  | [], s, _, _, ρ, A, hle, hs, h => ⟨s, h, hle, ρ, A, hs⟩
  | c :: cs, s, a, w, ρ, A, hle, hs, h =>
    wpIn_mono (vc_sound hmix hT hC hn0 c s a w ρ A _ hle hs h) (out_then (fun s a w ρ A h1 h2 h3 => vcL_sound hmix hT hC hn0 cs s a w ρ A h2 h3 h1) fun _ _ _ h => h)

theorem cutC_sound (hmix : P.follows .mixedOrders = true) (hT : TOk P T) (hC : COk P C) (hn0 : E.At n0 C) {r : Nat} {M : LS → Prop} :
    ∀ (c : Code) (q : List Code) (s : LS) (a : Act) (w : World) (ρ : Nat → Nat) (A : FA) (K : Ex → LS → Prop) (Q : Exit → Act → World → Prop), sufL r c = some q → E.n0 ≤ s.H.length → SatL E s a w ρ A → vcCutC T C n0 r M c s K →
      (∀ s a w ρ A, M s → E.n0 ≤ s.H.length → SatL E s a w ρ A → wpL P q Q a w) → (∀ e a w, Out E K e a w → Q e a w) → c.wpIn Fence.wide 0 P Q a w := by
  intro c
  induction c with
  | seq x z ihx ihz =>
    intro q s a w ρ A K Q hq hle hs h hM hQ
    unfold vcCutC at h
    unfold sufL at hq
    by_cases hh : headReg z = some r
    · rw [if_pos hh] at h hq
      obtain rfl : [z] = q := Option.some.inj hq
      exact wpIn_seq (wpIn_mono (vc_sound hmix hT hC hn0 x s a w ρ A _ hle hs h) (out_then (fun s a w ρ A h1 h2 h3 => wpL_one (hM s a w ρ A h1 h2 h3)) hQ))
    · rw [if_neg hh] at h hq
      cases hz : sufL r z with
      | some q' =>
        rw [hz] at h hq
        obtain rfl : q' = q := Option.some.inj hq
        exact wpIn_seq (wpIn_mono (vc_sound hmix hT hC hn0 x s a w ρ A _ hle hs h) (out_then (fun s a w ρ A h1 h2 h3 => ihz q' s a w ρ A K Q hz h2 h3 h1 hM hQ) hQ))
      | none =>
        rw [hz] at h hq
        simp only at h hq
        cases hx : sufL r x with
        | none => rw [hx] at hq; cases hq
        | some q' =>
          rw [hx] at hq
          obtain rfl : q' ++ [z] = q := Option.some.inj hq
          refine wpIn_seq (ihx q' s a w ρ A _ (Exit.then (z.wpIn Fence.wide 0 P Q) Q) hx hle hs h (fun s a w ρ A h1 h2 h3 => ?_) ?_)
          · have := hM s a w ρ A h1 h2 h3
            rw [wpL_app] at this
            exact wpL_mono (then_mono (fun _ _ => wpL_one) fun _ _ _ h => h) a w this
          · exact out_then (fun s a w ρ A h1 h2 h3 => wpIn_mono (vc_sound hmix hT hC hn0 z s a w ρ A _ h2 h3 h1) hQ) hQ
  | _ => intros; rename_i h _ _; exact h.elim

theorem cutL_sound (hmix : P.follows .mixedOrders = true) (hT : TOk P T) (hC : COk P C) (hn0 : E.At n0 C) {r : Nat} {M : LS → Prop} {K : Ex → LS → Prop} {Q : Exit → Act → World → Prop} (hQ : ∀ e a w, Out E K e a w → Q e a w) :
    ∀ (ys zs : List Code) (s : LS) (a : Act) (w : World) (ρ : Nat → Nat) (A : FA), sufLL r ys = some zs → E.n0 ≤ s.H.length → SatL E s a w ρ A → vcCutL T C n0 r M ys s K →
      (∀ s a w ρ A, M s → E.n0 ≤ s.H.length → SatL E s a w ρ A → wpL P zs Q a w) → wpL P ys Q a w
  | [], zs, s, a, w, ρ, A, hz, hle, hs, h, hM => h.elim
  | c :: cs, zs, s, a, w, ρ, A, hz, hle, hs, h, hM => by
    unfold vcCutL at h
    unfold sufLL at hz
    show c.wpIn Fence.wide 0 P (Exit.then (wpL P cs Q) Q) a w
    cases hc : sufL r c with
    | some q =>
      rw [hc] at h hz
      simp only at h hz
      obtain rfl : q ++ cs = zs := Option.some.inj hz
      refine cutC_sound hmix hT hC hn0 c q s a w ρ A _ _ hc hle hs h (fun s a w ρ A h1 h2 h3 => ?_) ?_
      · have := hM s a w ρ A h1 h2 h3
        rw [wpL_app] at this
        exact this
      · exact out_then (fun s a w ρ A h1 h2 h3 => wpL_mono hQ a w (vcL_sound hmix hT hC hn0 cs s a w ρ A h2 h3 h1)) hQ
    | none =>
      rw [hc] at h hz
      simp only at h hz
      by_cases hh : cs.head?.bind headReg = some r
      · rw [if_pos hh] at h hz
        obtain rfl : cs = zs := Option.some.inj hz
        exact wpIn_mono (vc_sound hmix hT hC hn0 c s a w ρ A _ hle hs h) (out_then hM hQ)
      · rw [if_neg hh] at h hz
        exact wpIn_mono (vc_sound hmix hT hC hn0 c s a w ρ A _ hle hs h) (out_then (fun s a w ρ A h1 h2 h3 => cutL_sound hmix hT hC hn0 hQ cs zs s a w ρ A hz h2 h3 h1 hM) hQ)

theorem cuts_sound (hmix : P.follows .mixedOrders = true) (hT : TOk P T) (hC : COk P C) (hn0 : E.At n0 C) {K : Ex → LS → Prop} :
    ∀ (rs : List Nat) (ys : List Code) (s : LS) (a : Act) (w : World) (ρ : Nat → Nat) (A : FA), E.n0 ≤ s.H.length → SatL E s a w ρ A → vcCuts T C n0 rs ys s K → wpL P ys (Out E K) a w
  | [], ys, s, a, w, ρ, A, hle, hs, h => vcL_sound hmix hT hC hn0 ys s a w ρ A hle hs (forceS_out h)
  | r :: rs, ys, s, a, w, ρ, A, hle, hs, h => by
    unfold vcCuts at h
    cases hz : sufLL r ys with
    | none => rw [hz] at h; exact h.elim
    | some zs =>
      rw [hz] at h
      obtain ⟨ι, mk, J, h1, h2⟩ := h
      refine cutL_sound hmix hT hC hn0 (fun _ _ _ h => h) ys zs s a w ρ A hz hle hs (forceS_out h1) fun s' a' w' ρ' A' hF hle' hs' => ?_
      obtain ⟨g, σ, hJ, hL⟩ := hF
      obtain ⟨hs1, hle1⟩ := LeS_sound hL hn0.1 hs'
      have h0 := hn0.1
      exact cuts_sound hmix hT hC hn0 rs zs (mk g) a' w' _ _ (by omega) hs1 (h2 g hJ)

/-- The contract of a function from the conditions of the pieces of its body. -/
theorem keeps_of_cuts (hmix : P.follows .mixedOrders = true) (hT : TOk P T) (hC : COk P C) {f : FuncId} {fn : Func} {c : Code} {con : Con} {ntmps : Nat} {res : List ResultVar} (hf : P.funcs[f]? = some fn) (hb : fn.body = some c) (hnt : fn.ntmps = ntmps) (hres : fn.results.toList = res)
    (rs : List Nat) (h : ∀ aargs hs Fs K, con.C aargs hs Fs K → vcCuts T C hs.length rs [c] ⟨aargs ++ List.replicate (ntmps - aargs.length) .any, hs, Fs, []⟩ fun e s => match e with
      | .exit _ => False
      | _ => s.F0 = Fs ∧ finK T hs.length con res s K)
    (hfx : con.mode = 3 → C.fx = true := by first | exact fun _ => rfl | (intro h; exact absurd h (by decide))) : Keeps' P f con := by
  intro E args aargs hs Fs K hcon hlen hn0 hsat hargs hfxE
  have hv := h aargs hs Fs K hcon
  have hS : SatL E ⟨aargs ++ List.replicate (ntmps - aargs.length) .any, hs, Fs, []⟩ { tmps := args.toArray ++ Array.replicate (fn.ntmps - args.toArray.size) undef, defers := [] } E.w0 E.ρ0 E.A0 := by
    refine { (by simpa [LS.toF] using hsat : SatW E (listH hs) (Fs ++ []) E.w0 E.ρ0 E.A0) with env := fun t => ?_, tsize := by simp [hlen, hnt], defers := .nil }
    show RepV _ ((aargs ++ List.replicate (ntmps - aargs.length) AV.any).getD t .any) _
    by_cases ht : t < aargs.length
    · have h1 : aargs[t]? = some aargs[t] := List.getElem?_eq_getElem ht
      have h2 : args[t]? = some (args[t]'(by omega)) := List.getElem?_eq_getElem (by omega)
      have := hargs t _ _ h1 h2
      have e1 : (aargs ++ List.replicate (ntmps - aargs.length) AV.any).getD t .any = aargs[t] := by
        rw [List.getD, List.getElem?_append_left ht, h1]; rfl
      have e2 : (args.toArray ++ Array.replicate (fn.ntmps - args.toArray.size) undef).getD t undef = args[t]'(by omega) := by
        rw [Array.getD_eq_getD_getElem?, Array.getElem?_append_left (by simp; omega)]
        simp [h2]
      rw [e1, e2]; exact this
    · have e1 : (aargs ++ List.replicate (ntmps - aargs.length) AV.any).getD t .any = .any := by
        simp only [List.getD]
        rw [List.getElem?_append_right (by omega), List.getElem?_replicate]
        split <;> rfl
      rw [e1]; exact .any _
  exact callsIn_wide.1 (callsIn_of_wp_marks (n := 0) hf hb trivial (wpIn_mono (wpL_one (cuts_sound hmix hT hC ⟨hn0, fun h => hfx (hfxE h)⟩ rs [c] _ _ E.w0 E.ρ0 E.A0 (by simp [hn0]) hS hv)) fun e a' w' hq => by
    cases e with
    | normal =>
      obtain ⟨s', ⟨h1, h2⟩, h3, ρ', A', h4⟩ := hq
      exact leaves_of (fun a'' w'' ht h5 => by
        have := finK_sound hT hn0 hres (a := a'') h5 h2
        rw [h1, ht] at this
        exact this) a'.defers a' w' rfl rfl h4
    | ret =>
      obtain ⟨s', ⟨h1, h2⟩, h3, ρ', A', h4⟩ := hq
      exact leaves_of (fun a'' w'' ht h5 => by
        have := finK_sound hT hn0 hres (a := a'') h5 h2
        rw [h1, ht] at this
        exact this) a'.defers a' w' rfl rfl h4
    | exit i => obtain ⟨s', h1, _⟩ := hq; exact h1.elim
    | _ => exact hq.elim))
end Go.Vc
namespace Go.Vc
open Go.Sort
variable {P : Program} {E : Entry} {w : World} {ρ : Nat → Nat} {A : FA}

theorem putRow_setRow {α : Type} [Inhabited α] {enc : α → Value} {b : Nat} {d : Array α} {vs : Array Value} {T : TypeId} {fr : Nat × Nat} (h : w.heap[b]? = some (.cells vs T fr)) : putRow enc w b 0 d = w.setRow b (putCells enc 0 d vs) := by
  have e : putRow enc w b 0 d = mapBlock w b fun _ => putCells enc 0 d vs := mapBlock_congr _ _ _ _ fun c e fr' h' => by rw [h] at h'; cases h'; rfl
  rw [e]
  unfold mapBlock World.setRow
  congr 2
/-- A state without slots. -/
theorem SatW.bare {H : Nat → AO} {F : List Fam} (h : SatW E H F w ρ A) : Sat E ⟨fun _ => .any, H, F⟩ 0 ⟨#[], []⟩ w ρ A := { h with env := fun _ => .any _, tsize := rfl, defers := .nil }
theorem Sat.ahead {S : FS} {tm : Nat} {a : Act} (h : Sat E S tm a w ρ A) (q : Nat) : Sat E S tm a (Sort.ahead w q) ρ A :=
  h.turn (w' := Sort.ahead w q) rfl rfl rfl (Nat.le_refl _) (fun _ _ _ _ hb => hb) (fun _ _ => rfl) rfl ⟨h.defers.1, h.defers.2⟩
theorem get_putCells {d : List Int} {vs : Array Value} {i : Nat} (hi : i < d.length) (hv : i < vs.size) : (putCells (Value.int .i64) 0 d.toArray vs)[i]? = some (.int .i64 (d.getD i 0)) := by
  simp [putCells, hi, hv, List.getD]
/-- Object k holds l2 now. -/
theorem SatW.put {H : Nat → AO} {F : List Fam} (h : SatW E H F w ρ A) {k : Nat} {l l2 : List Int} (hk : H k = .iarr l) {d : List Int} (hd : d.length = l.length) (hp : l2 = d.take l2.length) (hle : l2.length ≤ d.length) (q : Nat) :
    SatW E (mapH (killF k) H k (.iarr l2)) F (putRow (Value.int .i64) (Sort.ahead w q) (ρ k) 0 d.toArray) ρ A ∧ ∀ n, (ctxOf E H w ρ A).room k n → ∀ H' A', (ctxOf E H' (putRow (Value.int .i64) (Sort.ahead w q) (ρ k) 0 d.toArray) ρ A').room k n := by
  have hs := (h.bare.ahead q)
  have ho := hs.obj k
  have ho : RepO (ctxOf E H (Sort.ahead w q) ρ A) k (H k) := ho
  rw [hk] at ho
  obtain ⟨vs, T, h1, h2, h3, h4⟩ := ho
  have h1 : (Sort.ahead w q).heap[ρ k]? = some (.cells vs T (0, 0)) := h1
  have hal : alive H k := by rw [alive, hk]; simp
  have hsz : (putCells (Value.int .i64) 0 d.toArray vs).size = vs.size := by simp [putCells]
  rw [Nat.mul_one] at h2
  have hobj : ∀ c : Ctx, c.w.heap[c.ρ k]? = some (.cells (putCells (Value.int .i64) 0 d.toArray vs) T (0, 0)) → RepO c k (.iarr l2) := by
    intro c hb
    refine ⟨_, T, hb, by rw [hsz]; omega, fun v hv => ?_, fun i e j a v hi hj hv => ?_⟩
    · obtain ⟨i, hi, rfl⟩ := List.getElem_of_mem hv
      simp only [putCells, Array.toList_mapIdx, List.getElem_mapIdx]
      split
      · rfl
      · exact h3 _ (List.getElem_mem _)
    · obtain ⟨x, hx, rfl⟩ := icells_get.1 hi
      cases j with
      | succ j => simp at hj
      | zero =>
        simp only [List.getElem?_cons_zero, Option.some.injEq] at hj
        subst hj
        have hil := (List.getElem?_eq_some_iff.1 hx).1
        rw [Nat.mul_one, Nat.add_zero, get_putCells (by omega) (by omega)] at hv
        rw [hp, List.getElem?_take, if_pos hil] at hx
        simp only [Option.some.injEq] at hv
        subst hv
        have : d.getD i 0 = x := by simp [List.getD, hx]
        rw [this]
        exact ⟨.val _, rfl⟩
  rw [putRow_setRow h1]
  -- the size of the row may shrink: the object is laid anew in its block
  have st : StepOk E H (Sort.ahead w q) ρ A k (.iarr l2) (ρ k) ((Sort.ahead w q).setRow (ρ k) (putCells (Value.int .i64) 0 d.toArray vs)) (mapH (killF k) H k (.iarr l2)) :=
    ⟨rfl, rfl, rfl, by simp, fun b' _ hne => setRow_other _ _ _ _ (hne hal), fun _ => ⟨by simpa using (h.place k hal).1, .inl ⟨hal, rfl⟩⟩, fun i hi => by simp [alive, mapH, hi, mapO_dead], by simp [mapH], fun cs e => (by cases e), fun _ _ _ => ⟨rfl, hal⟩,
      fun _ _ _ us T' fr h0 => ⟨_, T, (0, 0), setRow_heap _ _ vs _ T (0, 0) h1, by rw [h1] at h0; cases h0; rw [hsz]; exact Nat.le_refl _⟩⟩
  have hnew : ((Sort.ahead w q).setRow (ρ k) (putCells (Value.int .i64) 0 d.toArray vs)).heap[ρ k]? = some (.cells (putCells (Value.int .i64) 0 d.toArray vs) T (0, 0)) := setRow_heap _ _ vs _ T (0, 0) h1
  refine ⟨?_, ?_⟩
  · have := (hs.stepMap (killF k) st (fun r hr => by simp [killF, hr]) (hobj _ (by show ((Sort.ahead w q).setRow (ρ k) (putCells (Value.int .i64) 0 d.toArray vs)).heap[setρ ρ k (ρ k) k]? = _; rw [setρ_self]; exact hnew)) fun r u hr _ => by simp only [killF, hr, if_true]; exact .any u).toSatW
    rw [setρ_self] at this
    exact this
  · rintro n ⟨us, T', fr, g1, g2⟩ H' A'
    have g1 : (Sort.ahead w q).heap[ρ k]? = some (.cells us T' fr) := g1
    rw [h1] at g1
    cases g1
    exact ⟨_, T, (0, 0), hnew, by rw [hsz]; exact g2⟩
end Go.Vc
namespace Go.Vc
theorem litK_in {n : Nat} {k : Nat → Prop} (h : k n) : litK n k := by
  unfold litK
  split <;> exact h
/-- A number that is not written out, looked at: what is asked of all numbers alike is asked of this one. -/
theorem litM_in {n : Nat} {X0 X1 X2 X3 X4 X5 X6 X7 X8 X9 X10 X11 X12 X13 X14 X15 : Prop} {hd : Nat → Prop} (h : hd n) (e0 : hd 0 = X0) (e1 : hd 1 = X1) (e2 : hd 2 = X2) (e3 : hd 3 = X3) (e4 : hd 4 = X4) (e5 : hd 5 = X5) (e6 : hd 6 = X6) (e7 : hd 7 = X7) (e8 : hd 8 = X8) (e9 : hd 9 = X9) (e10 : hd 10 = X10) (e11 : hd 11 = X11) (e12 : hd 12 = X12) (e13 : hd 13 = X13) (e14 : hd 14 = X14) (e15 : hd 15 = X15) : (match (generalizing := false) n with
    | 0 => X0
    | 1 => X1
    | 2 => X2
    | 3 => X3
    | 4 => X4
    | 5 => X5
    | 6 => X6
    | 7 => X7
    | 8 => X8
    | 9 => X9
    | 10 => X10
    | 11 => X11
    | 12 => X12
    | 13 => X13
    | 14 => X14
    | 15 => X15
    | n => hd n) := by
  subst e0 e1 e2 e3 e4 e5 e6 e7 e8 e9 e10 e11 e12 e13 e14 e15
  exact litK_in (k := hd) h
theorem forceC_in {x : AV} {k : AV → Prop} (h : k x) : forceC x k := by
  cases x with
  | ptr i o => exact litK_in (k := fun i => litK o fun o => k (.ptr i o)) (litK_in (k := fun o => k (.ptr i o)) h)
  | el i j o => exact litK_in (k := fun i => litK o fun o => k (.el i j o)) (litK_in (k := fun o => k (.el i j o)) h)
  | own i => exact litK_in (k := fun i => k (.own i)) h
  | sub i p q => exact litK_in (k := fun i => k (.sub i p q)) h
  | win i o n => exact litK_in (k := fun i => litK o fun o => k (.win i o n)) (litK_in (k := fun o => k (.win i o n)) h)
  | clo f i => exact litK_in (k := fun i => k (.clo f i)) h
  | ifp t i o => exact litK_in (k := fun i => litK o fun o => k (.ifp t i o)) (litK_in (k := fun o => k (.ifp t i o)) h)
  | rp f i o => exact litK_in (k := fun o => k (.rp f i o)) h
  | _ => exact h
theorem forceL_in : ∀ {l : List AV} {k : List AV → Prop}, k l → forceL l k
  | [], _, h => h
  | _ :: t, _, h => forceC_in (forceL_in (l := t) h)
/-- The same, the list in other words. -/
theorem forceL_is {l l' : List AV} {k : List AV → Prop} (e : l = l') (h : k l') : forceL l k := by
  rw [e]
  exact forceL_in h
theorem natK_in : ∀ {l : List Nat} {k : List Nat → Prop}, k l → natK l k
  | [], _, h => h
  | _ :: t, _, h => natK_in (l := t) h
theorem natK_is {l l' : List Nat} {k : List Nat → Prop} (e : l = l') (h : k l') : natK l k := by
  rw [e]
  exact natK_in h
theorem leVK_refl {x : AV} {X : Prop} (h : X) : leVK x x X := by
  cases x <;> try exact ⟨rfl, h⟩
  case any => exact h
  case val v => cases v <;> first | exact ⟨rfl, h⟩ | exact ⟨rfl, rfl, h⟩
  case sl => exact ⟨rfl, rfl, h⟩
theorem leEK_refl : ∀ {l : List AV} {X : Prop}, X → leEK l l X
  | [], _, h => h
  | _ :: t, _, h => leVK_refl (leEK_refl (l := t) h)
theorem leEK_is {l l' : List AV} {X : Prop} (e : l' = l) (h : X) : leEK l l' X := by
  rw [e]
  exact leEK_refl h
theorem mapC_pure {f : AV → AV} {x : AV} (h : pureB x = true) : mapC f x = x := by
  cases x <;> first | rfl | (simp [pureB] at h)
theorem map_pure {f : AV → AV} : ∀ {l : List AV}, (∀ x ∈ l, pureB x = true) → l.map (mapC f) = l
  | [], _ => rfl
  | x :: t, h => by
    rw [List.map_cons, mapC_pure (h x (by simp)), map_pure fun y hy => h y (by simp [hy])]
theorem refs_pure : ∀ {l : List AV}, (∀ x ∈ l, pureB x = true) → l.flatMap refsC = []
  | [], _ => rfl
  | x :: t, h => by
    have h1 : refsC x = [] := by
      have := h x (by simp)
      cases x <;> first | rfl | (simp [pureB] at this)
    rw [List.flatMap_cons, h1, refs_pure fun y hy => h y (by simp [hy])]
    rfl
end Go.Vc
namespace Go.Vc
variable {P : Program}
theorem meth_ptr {t : TypeId} {nm : String} {i : TypeInfo} {m : Method} {f : FuncId} {e : TypeId} (hi : P.info? t = some i) (hm : i.methods.find? (fun x => x.name == nm) = some m) (hp : m.path = #[]) (hf : m.func = some (f, true)) (hu : P.underlying t = some (.pointer e)) :
    MethOk P t nm (f, true, e) := by
  intro a args w
  have hd : ∃ n, Made.depth = n + 1 := ⟨_, rfl⟩
  obtain ⟨n, hn⟩ := hd
  simp [callMethod, hn, ← Nat.add_assoc, Go.method, typeInfo, hi, hm, hp, follow, hf, receiverAt, underlying, hu, Place.get]
theorem wrap_nil (ts : Array TypeId) (t : TypeId) (a : Addr) (x y : String) : Builtin.ssaWrapNilChk_ ts t #[.pointer (some a), strVal x, strVal y] = pure (.pointer (some a)) := rfl
theorem meth_val {t : TypeId} {nm : String} {i : TypeInfo} {m : Method} {f : FuncId} {e : TypeId} (hi : P.info? t = some i) (hm : i.methods.find? (fun x => x.name == nm) = some m) (hp : m.path = #[]) (hf : m.func = some (f, false)) (hu : P.underlying t = some (.pointer e)) :
    MethOk P t nm (f, false, e) := by
  intro a args w
  have hd : ∃ n, Made.depth = n + 1 := ⟨_, rfl⟩
  obtain ⟨n, hn⟩ := hd
  simp [callMethod, hn, ← Nat.add_assoc, Go.method, typeInfo, hi, hm, hp, follow, hf, receiverAt, underlying, hu, Place.get, wrap_nil, asAddr]
  cases (loadVar e a).run P w <;> rfl
end Go.Vc
