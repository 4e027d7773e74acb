/-
Two contracts of one function as one: the caller chooses.
A body cut in two: the condition of the first part up to a state that a chosen form describes, and that of the rest from there.
A body cut several times: each part's condition up to a state that a chosen form describes.
What a library function that writes a row of numbers in place leaves, told by its shelf contract.
Objects with many cells of which only the first are written out: the steps where the evaluation of a condition stands still.
Methods found behind a pointer in an interface.
A call that writes memory which its caller only read so far: what is forgotten by it. Laws whose arguments lie in memory of their own.
No conditions.
-/
import Derived.Test.YtalbgcpfekmfoaaVcMF
import Derived.Test.YtalbgcpfekmfoaaVcME
import Derived.Sort.Row
namespace Go.Vc
variable {P : Program}
/-- Either contract, by the caller's choice. -/
def Con.alt (a b : Con) : Con := ⟨a.nnew, a.mode, a.alias, fun xs hs Fs K => a.C xs hs Fs K ∨ b.C xs hs Fs K⟩
theorem ret_alt {E : Entry} {a b : Con} {Fs : List Fam} {K : AV → List AO → List Fam → Prop} {e : Ending} {w : World} (hn : b.nnew ≤ a.nnew) (ha : a.alias = b.alias) (h : Ret E b Fs K e w) : Ret E (a.alt b) Fs K e w := by
  obtain ⟨v, r, hs, nF, ρ, A, h1, h2, h3, h4, h5, h6, h7⟩ := h
  exact ⟨v, r, hs, nF, ρ, A, h1, h2, h3, h4, h5, by show hs.length ≤ E.n0 + a.nnew; omega, fun e => h7 (ha ▸ e)⟩
theorem keeps_alt {f : FuncId} {a b : Con} (ha : Keeps' P f a) (hb : Keeps' P f b) (hn : b.nnew ≤ a.nnew) (hl : a.alias = b.alias) (hm : a.mode = 3 → b.mode = 3 := by first | decide | exact id) : Keeps' P f (a.alt b) := by
  intro E args aargs hs Fs K hc h1 h2 h3 h4 hfx
  rcases hc with hc | hc
  · exact (ha E args aargs hs Fs K hc h1 h2 h3 h4 hfx).mono fun e w h => h
  · exact (hb E args aargs hs Fs K hc h1 h2 h3 h4 fun e => hm (hfx e)).mono fun e w h => ret_alt hn hl h
end Go.Vc
namespace Go.Vc
variable {P : Program} {T : TT} {C : CT} {E : Entry} {w : World} {ρ : Nat → Nat} {A : FA} {s : LS} {a : Act} {n0 : Nat}

/-- The number of the region that a piece of code begins with. -/
def headReg : Code → Option Nat
  | .region id _ _ => some id
  | .seq x _ => headReg x
  | _ => none
/-- What follows from region r on. -/
def sufAt (r : Nat) : Code → Option Code
  | .seq x y => if headReg y = some r then some y else match sufAt r y with
    | some q => some q
    | none => match sufAt r x with
      | some q => some (.seq q y)
      | none => none
  | _ => none
/-- The condition of the part ahead of region r; M is asked there. -/
def vcCut (T : TT) (C : CT) (n0 r : Nat) (M : LS → Prop) : Code → LS → (Ex → LS → Prop) → Prop
  | .seq x y, s, K => if headReg y = some r then vc T C n0 x s fun e s => match e with
      | .normal => M s
      | e => K e s
    else match sufAt r y with
    | some _ => vc T C n0 x s fun e s => match e with
      | .normal => vcCut T C n0 r M y s K
      | e => K e s
    | none => vcCut T C n0 r M x s fun e s => match e with
      | .normal => vc T C n0 y s K
      | e => K e s
  | _, _, _ => False

/-- A state described by a chosen form. -/
def Form {ι : Type} (n0 : Nat) (mk : ι → LS) (J : ι → Prop) (s : LS) : Prop := ∃ g σ, J g ∧ LeS n0 σ (mk g) s

theorem vcCut_sound (hmix : P.follows .mixedOrders = true) (hT : TOk P T) (hC : COk P C) (hn0 : E.At n0 C) {r : Nat} {ι : Type} {mk : ι → LS} {J : ι → Prop} :
    ∀ (c y : Code) (s : LS) (a : Act) (w : World) (ρ : Nat → Nat) (A : FA) (K : Ex → LS → Prop), sufAt r c = some y → E.n0 ≤ s.H.length → SatL E s a w ρ A → vcCut T C n0 r (Form n0 mk J) c s K →
      (∀ g, J g → forceS (mk g) fun s => vc T C n0 y s K) → c.wpIn Fence.wide 0 P (Out E K) a w := by
  intro c
  induction c with
  | seq x z ihx ihz =>
    intro y s a w ρ A K hy hle hs h hrest
    unfold vcCut at h
    unfold sufAt at hy
    by_cases hh : headReg z = some r
    · rw [if_pos hh] at h hy
      obtain rfl : z = y := Option.some.inj hy
      refine wpIn_seq (wpIn_mono (vc_sound hmix hT hC hn0 x s a w ρ A _ hle hs h) ?_)
      intro e a' w' hq
      cases e with
      | normal =>
        obtain ⟨s', ⟨g, σ, hJ, hL⟩, h2, ρ', A', h3⟩ := hq
        obtain ⟨hs1, hle1⟩ := LeS_sound hL hn0.1 h3
        have h0 := hn0.1
        exact vc_sound hmix hT hC hn0 z _ a' w' _ _ K (by omega) hs1 (forceS_out (hrest g hJ))
      | exit i => exact hq
      | ret => exact hq
      | _ => exact hq.elim
    · rw [if_neg hh] at h hy
      cases hz : sufAt r z with
      | some q =>
        rw [hz] at h hy
        obtain rfl : q = y := Option.some.inj hy
        refine wpIn_seq (wpIn_mono (vc_sound hmix hT hC hn0 x s a w ρ A _ hle hs h) ?_)
        intro e a' w' hq
        cases e with
        | normal =>
          obtain ⟨s', h1, h2, ρ', A', h3⟩ := hq
          exact ihz q s' a' w' ρ' A' K hz h2 h3 h1 hrest
        | exit i => exact hq
        | ret => exact hq
        | _ => exact hq.elim
      | none =>
        rw [hz] at h hy
        simp only at h hy
        cases hx : sufAt r x with
        | none => rw [hx] at hy; cases hy
        | some q =>
          rw [hx] at hy
          obtain rfl : Code.seq q z = y := Option.some.inj hy
          refine wpIn_seq (wpIn_mono (ihx q s a w ρ A _ hx hle hs h fun g hJ => ?_) ?_)
          rotate_left
          · intro e a' w' hq
            cases e with
            | normal =>
              obtain ⟨s', h1, h2, ρ', A', h3⟩ := hq
              exact vc_sound hmix hT hC hn0 z s' a' w' ρ' A' K h2 h3 h1
            | exit i => exact hq
            | ret => exact hq
            | _ => exact hq.elim
          · have e : (fun s => vc T C n0 (q.seq z) s K) = fun s => vc T C n0 q s fun e s => match e with
                | .normal => vc T C n0 z s K
                | e => K e s := by
              funext s
              conv => lhs; unfold vc
              congr 1
              funext e s
              cases e <;> rfl
            rw [← e]
            exact hrest g hJ
  | _ => intros; rename_i h _; exact h.elim

/-- The condition of a body that is cut ahead of region r; y is what follows. -/
def bodyCut (T : TT) (C : CT) (con : Con) (ntmps : Nat) (res : List ResultVar) (c : Code) (r : Nat) (y : Code) (aargs : List AV) (hs : List AO) (Fs : List Fam) (K : AV → List AO → List Fam → Prop) : Prop :=
  ∃ (ι : Type) (mk : ι → LS) (J : ι → Prop), (vcCut T C hs.length r (Form hs.length mk J) c ⟨aargs ++ List.replicate (ntmps - aargs.length) .any, hs, Fs, []⟩ fun e s => match e with
    | .exit _ => False
    | _ => s.F0 = Fs ∧ finK T hs.length con res s K) ∧ ∀ g, J g → forceS (mk g) fun s => vc T C hs.length y s fun e s => match e with
    | .exit _ => False
    | _ => s.F0 = Fs ∧ finK T hs.length con res s K

/-- The contract of a function from the condition of its body, cut ahead of region r. -/
theorem keeps_of_cut (hmix : P.follows .mixedOrders = true) (hT : TOk P T) (hC : COk P C) {f : FuncId} {fn : Func} {c : Code} {con : Con} {ntmps : Nat} {res : List ResultVar} (hf : P.funcs[f]? = some fn) (hb : fn.body = some c) (hnt : fn.ntmps = ntmps) (hres : fn.results.toList = res)
    {r : Nat} {y : Code} (hy : sufAt r c = some y) (h : ∀ aargs hs Fs K, con.C aargs hs Fs K → bodyCut T C con ntmps res c r y aargs hs Fs K)
    (hfx : con.mode = 3 → C.fx = true := by first | exact fun _ => rfl | (intro h; exact absurd h (by decide))) : Keeps' P f con := by
  intro E args aargs hs Fs K hcon hlen hn0 hsat hargs hfxE
  obtain ⟨ι, mk, J, hv, hrest⟩ := h aargs hs Fs K hcon
  have hS : SatL E ⟨aargs ++ List.replicate (ntmps - aargs.length) .any, hs, Fs, []⟩ { tmps := args.toArray ++ Array.replicate (fn.ntmps - args.toArray.size) undef, defers := [] } E.w0 E.ρ0 E.A0 := by
    refine { (by simpa [LS.toF] using hsat : SatW E (listH hs) (Fs ++ []) E.w0 E.ρ0 E.A0) with env := fun t => ?_, tsize := by simp [hlen, hnt], defers := .nil }
    show RepV _ ((aargs ++ List.replicate (ntmps - aargs.length) AV.any).getD t .any) _
    by_cases ht : t < aargs.length
    · have h1 : aargs[t]? = some aargs[t] := List.getElem?_eq_getElem ht
      have h2 : args[t]? = some (args[t]'(by omega)) := List.getElem?_eq_getElem (by omega)
      have := hargs t _ _ h1 h2
      have e1 : (aargs ++ List.replicate (ntmps - aargs.length) AV.any).getD t .any = aargs[t] := by
        rw [List.getD, List.getElem?_append_left ht, h1]; rfl
      have e2 : (args.toArray ++ Array.replicate (fn.ntmps - args.toArray.size) undef).getD t undef = args[t]'(by omega) := by
        rw [Array.getD_eq_getD_getElem?, Array.getElem?_append_left (by simp; omega)]
        simp [h2]
      rw [e1, e2]; exact this
    · have e1 : (aargs ++ List.replicate (ntmps - aargs.length) AV.any).getD t .any = .any := by
        simp only [List.getD]
        rw [List.getElem?_append_right (by omega), List.getElem?_replicate]
        split <;> rfl
      rw [e1]; exact .any _
  exact callsIn_wide.1 (callsIn_of_wp_marks (n := 0) hf hb trivial (wpIn_mono (vcCut_sound hmix hT hC ⟨hn0, fun h => hfx (hfxE h)⟩ c y _ _ E.w0 E.ρ0 E.A0 _ hy (by simp [hn0]) hS hv hrest) fun e a' w' hq => by
    cases e with
    | normal =>
      obtain ⟨s', ⟨h1, h2⟩, h3, ρ', A', h4⟩ := hq
      exact leaves_of (fun a'' w'' ht h5 => by
        have := finK_sound hT hn0 hres (a := a'') h5 h2
        rw [h1, ht] at this
        exact this) a'.defers a' w' rfl rfl h4
    | ret =>
      obtain ⟨s', ⟨h1, h2⟩, h3, ρ', A', h4⟩ := hq
      exact leaves_of (fun a'' w'' ht h5 => by
        have := finK_sound hT hn0 hres (a := a'') h5 h2
        rw [h1, ht] at this
        exact this) a'.defers a' w' rfl rfl h4
    | exit i => obtain ⟨s', h1, _⟩ := hq; exact h1.elim
    | _ => exact hq.elim))
end Go.Vc
namespace Go.Vc
variable {P : Program} {T : TT} {C : CT} {E : Entry} {n0 : Nat}

/-- What follows from region r on, piece by piece. -/
def sufL (r : Nat) : Code → Option (List Code)
  | .seq x y => if headReg y = some r then some [y] else match sufL r y with
    | some q => some q
    | none => match sufL r x with
      | some q => some (q ++ [y])
      | none => none
  | _ => none
def sufLL (r : Nat) : List Code → Option (List Code)
  | [] => none
  | c :: cs => match sufL r c with
    | some q => some (q ++ cs)
    | none => if cs.head?.bind headReg = some r then some cs else sufLL r cs
def vcCutC (T : TT) (C : CT) (n0 r : Nat) (M : LS → Prop) : Code → LS → (Ex → LS → Prop) → Prop
  | .seq x y, s, K => if headReg y = some r then vc T C n0 x s fun e s => match e with
      | .normal => M s
      | e => K e s
    else match sufL r y with
    | some _ => vc T C n0 x s fun e s => match e with
      | .normal => vcCutC T C n0 r M y s K
      | e => K e s
    | none => vcCutC T C n0 r M x s fun e s => match e with
      | .normal => vc T C n0 y s K
      | e => K e s
  | _, _, _ => False
def vcL (T : TT) (C : CT) (n0 : Nat) : List Code → LS → (Ex → LS → Prop) → Prop
  | [], s, K => K .normal s
  | c :: cs, s, K => vc T C n0 c s fun e s => match e with
    | .normal => vcL T C n0 cs s K
    | e => K e s
def vcCutL (T : TT) (C : CT) (n0 r : Nat) (M : LS → Prop) : List Code → LS → (Ex → LS → Prop) → Prop
  | [], _, _ => False
  | c :: cs, s, K => match sufL r c with
    | some _ => vcCutC T C n0 r M c s fun e s => match e with
      | .normal => vcL T C n0 cs s K
      | e => K e s
    | none => if cs.head?.bind headReg = some r then vc T C n0 c s fun e s => match e with
        | .normal => M s
        | e => K e s
      else vc T C n0 c s fun e s => match e with
        | .normal => vcCutL T C n0 r M cs s K
        | e => K e s
/-- The condition of pieces that are cut ahead of each of the regions. -/
def vcCuts (T : TT) (C : CT) (n0 : Nat) : List Nat → List Code → LS → (Ex → LS → Prop) → Prop
  | [], ys, s, K => forceS s fun s => vcL T C n0 ys s K
  | r :: rs, ys, s, K => match sufLL r ys with
    | none => False
    | some zs => ∃ (ι : Type) (mk : ι → LS) (J : ι → Prop), (forceS s fun s => vcCutL T C n0 r (Form n0 mk J) ys s K) ∧ ∀ g, J g → vcCuts T C n0 rs zs (mk g) K
theorem cuts_step {r : Nat} {rs : List Nat} {ys zs : List Code} {s : LS} {K : Ex → LS → Prop} (hz : sufLL r ys = some zs) {ι : Type} (mk : ι → LS) (J : ι → Prop)
    (h1 : forceS s fun s => vcCutL T C n0 r (Form n0 mk J) ys s K) (h2 : ∀ g, J g → vcCuts T C n0 rs zs (mk g) K) : vcCuts T C n0 (r :: rs) ys s K := by
  unfold vcCuts
  rw [hz]
  exact ⟨ι, mk, J, h1, h2⟩

def wpL (P : Program) : List Code → (Exit → Act → World → Prop) → Act → World → Prop
  | [], Q => Q .normal
  | c :: cs, Q => fun a w => c.wpIn Fence.wide 0 P (Exit.then (wpL P cs Q) Q) a w
theorem then_mono {X X' : Act → World → Prop} {Q Q' : Exit → Act → World → Prop} (hX : ∀ a w, X a w → X' a w) (hQ : ∀ e a w, Q e a w → Q' e a w) : ∀ e a w, Exit.then X Q e a w → Exit.then X' Q' e a w := by
  intro e a w h
  cases e with
  | normal => exact hX a w h
  | _ => exact hQ _ a w h
theorem wpL_mono : ∀ {ys : List Code} {Q Q' : Exit → Act → World → Prop}, (∀ e a w, Q e a w → Q' e a w) → ∀ a w, wpL P ys Q a w → wpL P ys Q' a w
  | [], _, _, hQ, a, w, h => hQ _ a w h
  | _ :: _, _, _, hQ, _, _, h => wpIn_mono h fun e a w => then_mono (wpL_mono hQ) hQ e a w
theorem wpL_one {y : Code} {Q : Exit → Act → World → Prop} {a : Act} {w : World} (h : wpL P [y] Q a w) : y.wpIn Fence.wide 0 P Q a w :=
  wpIn_mono h fun e a w h => by cases e <;> exact h
theorem then_then {X : Act → World → Prop} {Y : Act → World → Prop} {Q : Exit → Act → World → Prop} : Exit.then X (Exit.then Y Q) = Exit.then X Q := by
  funext e a w
  cases e <;> rfl
theorem wpL_app : ∀ {q cs : List Code} {Q : Exit → Act → World → Prop}, wpL P (q ++ cs) Q = wpL P q (Exit.then (wpL P cs Q) Q)
  | [], cs, Q => rfl
  | c :: q, cs, Q => by
    funext a w
    show c.wpIn Fence.wide 0 P (Exit.then (wpL P (q ++ cs) Q) Q) a w = c.wpIn Fence.wide 0 P (Exit.then (wpL P q (Exit.then (wpL P cs Q) Q)) (Exit.then (wpL P cs Q) Q)) a w
    rw [wpL_app, then_then]

theorem out_then {K : Ex → LS → Prop} {X : Act → World → Prop} {Q : Exit → Act → World → Prop} {M : LS → Prop} (hM : ∀ s a w ρ A, M s → E.n0 ≤ s.H.length → SatL E s a w ρ A → X a w) (hQ : ∀ e a w, Out E K e a w → Q e a w) :
    ∀ e a w, Out E (fun e s => match e with
      | .normal => M s
      | e => K e s) e a w → Exit.then X Q e a w := by
  intro e a w h
  cases e with
  | normal =>
    obtain ⟨s, h1, h2, ρ, A, h3⟩ := h
    exact hM s a w ρ A h1 h2 h3
  | exit i => exact hQ (.exit i) a w h
  | ret => exact hQ .ret a w h
  | _ => exact h.elim

theorem vcL_sound (hmix : P.follows .mixedOrders = true) (hT : TOk P T) (hC : COk P C) (hn0 : E.At n0 C) {K : Ex → LS → Prop} :
    ∀ (ys : List Code) (s : LS) (a : Act) (w : World) (ρ : Nat → Nat) (A : FA), E.n0 ≤ s.H.length → SatL E s a w ρ A → vcL T C n0 ys s K → wpL P ys (Out E K) a w
  | [], s, _, _, ρ, A, hle, hs, h => ⟨s, h, hle, ρ, A, hs⟩
  | c :: cs, s, a, w, ρ, A, hle, hs, h =>
    wpIn_mono (vc_sound hmix hT hC hn0 c s a w ρ A _ hle hs h) (out_then (fun s a w ρ A h1 h2 h3 => vcL_sound hmix hT hC hn0 cs s a w ρ A h2 h3 h1) fun _ _ _ h => h)

theorem cutC_sound (hmix : P.follows .mixedOrders = true) (hT : TOk P T) (hC : COk P C) (hn0 : E.At n0 C) {r : Nat} {M : LS → Prop} :
    ∀ (c : Code) (q : List Code) (s : LS) (a : Act) (w : World) (ρ : Nat → Nat) (A : FA) (K : Ex → LS → Prop) (Q : Exit → Act → World → Prop), sufL r c = some q → E.n0 ≤ s.H.length → SatL E s a w ρ A → vcCutC T C n0 r M c s K →
      (∀ s a w ρ A, M s → E.n0 ≤ s.H.length → SatL E s a w ρ A → wpL P q Q a w) → (∀ e a w, Out E K e a w → Q e a w) → c.wpIn Fence.wide 0 P Q a w := by
  intro c
  induction c with
  | seq x z ihx ihz =>
    intro q s a w ρ A K Q hq hle hs h hM hQ
    unfold vcCutC at h
    unfold sufL at hq
    by_cases hh : headReg z = some r
    · rw [if_pos hh] at h hq
      obtain rfl : [z] = q := Option.some.inj hq
      exact wpIn_seq (wpIn_mono (vc_sound hmix hT hC hn0 x s a w ρ A _ hle hs h) (out_then (fun s a w ρ A h1 h2 h3 => wpL_one (hM s a w ρ A h1 h2 h3)) hQ))
    · rw [if_neg hh] at h hq
      cases hz : sufL r z with
      | some q' =>
        rw [hz] at h hq
        obtain rfl : q' = q := Option.some.inj hq
        exact wpIn_seq (wpIn_mono (vc_sound hmix hT hC hn0 x s a w ρ A _ hle hs h) (out_then (fun s a w ρ A h1 h2 h3 => ihz q' s a w ρ A K Q hz h2 h3 h1 hM hQ) hQ))
      | none =>
        rw [hz] at h hq
        simp only at h hq
        cases hx : sufL r x with
        | none => rw [hx] at hq; cases hq
        | some q' =>
          rw [hx] at hq
          obtain rfl : q' ++ [z] = q := Option.some.inj hq
          refine wpIn_seq (ihx q' s a w ρ A _ (Exit.then (z.wpIn Fence.wide 0 P Q) Q) hx hle hs h (fun s a w ρ A h1 h2 h3 => ?_) ?_)
          · have := hM s a w ρ A h1 h2 h3
            rw [wpL_app] at this
            exact wpL_mono (then_mono (fun _ _ => wpL_one) fun _ _ _ h => h) a w this
          · exact out_then (fun s a w ρ A h1 h2 h3 => wpIn_mono (vc_sound hmix hT hC hn0 z s a w ρ A _ h2 h3 h1) hQ) hQ
  | _ => intros; rename_i h _ _; exact h.elim

theorem cutL_sound (hmix : P.follows .mixedOrders = true) (hT : TOk P T) (hC : COk P C) (hn0 : E.At n0 C) {r : Nat} {M : LS → Prop} {K : Ex → LS → Prop} {Q : Exit → Act → World → Prop} (hQ : ∀ e a w, Out E K e a w → Q e a w) :
    ∀ (ys zs : List Code) (s : LS) (a : Act) (w : World) (ρ : Nat → Nat) (A : FA), sufLL r ys = some zs → E.n0 ≤ s.H.length → SatL E s a w ρ A → vcCutL T C n0 r M ys s K →
      (∀ s a w ρ A, M s → E.n0 ≤ s.H.length → SatL E s a w ρ A → wpL P zs Q a w) → wpL P ys Q a w
  | [], zs, s, a, w, ρ, A, hz, hle, hs, h, hM => h.elim
  | c :: cs, zs, s, a, w, ρ, A, hz, hle, hs, h, hM => by
    unfold vcCutL at h
    unfold sufLL at hz
    show c.wpIn Fence.wide 0 P (Exit.then (wpL P cs Q) Q) a w
    cases hc : sufL r c with
    | some q =>
      rw [hc] at h hz
      simp only at h hz
      obtain rfl : q ++ cs = zs := Option.some.inj hz
      refine cutC_sound hmix hT hC hn0 c q s a w ρ A _ _ hc hle hs h (fun s a w ρ A h1 h2 h3 => ?_) ?_
      · have := hM s a w ρ A h1 h2 h3
        rw [wpL_app] at this
        exact this
      · exact out_then (fun s a w ρ A h1 h2 h3 => wpL_mono hQ a w (vcL_sound hmix hT hC hn0 cs s a w ρ A h2 h3 h1)) hQ
    | none =>
      rw [hc] at h hz
      simp only at h hz
      by_cases hh : cs.head?.bind headReg = some r
      · rw [if_pos hh] at h hz
        obtain rfl : cs = zs := Option.some.inj hz
        exact wpIn_mono (vc_sound hmix hT hC hn0 c s a w ρ A _ hle hs h) (out_then hM hQ)
      · rw [if_neg hh] at h hz
        exact wpIn_mono (vc_sound hmix hT hC hn0 c s a w ρ A _ hle hs h) (out_then (fun s a w ρ A h1 h2 h3 => cutL_sound hmix hT hC hn0 hQ cs zs s a w ρ A hz h2 h3 h1 hM) hQ)

theorem cuts_sound (hmix : P.follows .mixedOrders = true) (hT : TOk P T) (hC : COk P C) (hn0 : E.At n0 C) {K : Ex → LS → Prop} :
    ∀ (rs : List Nat) (ys : List Code) (s : LS) (a : Act) (w : World) (ρ : Nat → Nat) (A : FA), E.n0 ≤ s.H.length → SatL E s a w ρ A → vcCuts T C n0 rs ys s K → wpL P ys (Out E K) a w
  | [], ys, s, a, w, ρ, A, hle, hs, h => vcL_sound hmix hT hC hn0 ys s a w ρ A hle hs (forceS_out h)
  | r :: rs, ys, s, a, w, ρ, A, hle, hs, h => by
    unfold vcCuts at h
    cases hz : sufLL r ys with
    | none => rw [hz] at h; exact h.elim
    | some zs =>
      rw [hz] at h
      obtain ⟨ι, mk, J, h1, h2⟩ := h
      refine cutL_sound hmix hT hC hn0 (fun _ _ _ h => h) ys zs s a w ρ A hz hle hs (forceS_out h1) fun s' a' w' ρ' A' hF hle' hs' => ?_
      obtain ⟨g, σ, hJ, hL⟩ := hF
      obtain ⟨hs1, hle1⟩ := LeS_sound hL hn0.1 hs'
      have h0 := hn0.1
      exact cuts_sound hmix hT hC hn0 rs zs (mk g) a' w' _ _ (by omega) hs1 (h2 g hJ)

/-- The contract of a function from the conditions of the pieces of its body. -/
theorem keeps_of_cuts (hmix : P.follows .mixedOrders = true) (hT : TOk P T) (hC : COk P C) {f : FuncId} {fn : Func} {c : Code} {con : Con} {ntmps : Nat} {res : List ResultVar} (hf : P.funcs[f]? = some fn) (hb : fn.body = some c) (hnt : fn.ntmps = ntmps) (hres : fn.results.toList = res)
    (rs : List Nat) (h : ∀ aargs hs Fs K, con.C aargs hs Fs K → vcCuts T C hs.length rs [c] ⟨aargs ++ List.replicate (ntmps - aargs.length) .any, hs, Fs, []⟩ fun e s => match e with
      | .exit _ => False
      | _ => s.F0 = Fs ∧ finK T hs.length con res s K)
    (hfx : con.mode = 3 → C.fx = true := by first | exact fun _ => rfl | (intro h; exact absurd h (by decide))) : Keeps' P f con := by
  intro E args aargs hs Fs K hcon hlen hn0 hsat hargs hfxE
  have hv := h aargs hs Fs K hcon
  have hS : SatL E ⟨aargs ++ List.replicate (ntmps - aargs.length) .any, hs, Fs, []⟩ { tmps := args.toArray ++ Array.replicate (fn.ntmps - args.toArray.size) undef, defers := [] } E.w0 E.ρ0 E.A0 := by
    refine { (by simpa [LS.toF] using hsat : SatW E (listH hs) (Fs ++ []) E.w0 E.ρ0 E.A0) with env := fun t => ?_, tsize := by simp [hlen, hnt], defers := .nil }
    show RepV _ ((aargs ++ List.replicate (ntmps - aargs.length) AV.any).getD t .any) _
    by_cases ht : t < aargs.length
    · have h1 : aargs[t]? = some aargs[t] := List.getElem?_eq_getElem ht
      have h2 : args[t]? = some (args[t]'(by omega)) := List.getElem?_eq_getElem (by omega)
      have := hargs t _ _ h1 h2
      have e1 : (aargs ++ List.replicate (ntmps - aargs.length) AV.any).getD t .any = aargs[t] := by
        rw [List.getD, List.getElem?_append_left ht, h1]; rfl
      have e2 : (args.toArray ++ Array.replicate (fn.ntmps - args.toArray.size) undef).getD t undef = args[t]'(by omega) := by
        rw [Array.getD_eq_getD_getElem?, Array.getElem?_append_left (by simp; omega)]
        simp [h2]
      rw [e1, e2]; exact this
    · have e1 : (aargs ++ List.replicate (ntmps - aargs.length) AV.any).getD t .any = .any := by
        simp only [List.getD]
        rw [List.getElem?_append_right (by omega), List.getElem?_replicate]
        split <;> rfl
      rw [e1]; exact .any _
  exact callsIn_wide.1 (callsIn_of_wp_marks (n := 0) hf hb trivial (wpIn_mono (wpL_one (cuts_sound hmix hT hC ⟨hn0, fun h => hfx (hfxE h)⟩ rs [c] _ _ E.w0 E.ρ0 E.A0 (by simp [hn0]) hS hv)) fun e a' w' hq => by
    cases e with
    | normal =>
      obtain ⟨s', ⟨h1, h2⟩, h3, ρ', A', h4⟩ := hq
      exact leaves_of (fun a'' w'' ht h5 => by
        have := finK_sound hT hn0 hres (a := a'') h5 h2
        rw [h1, ht] at this
        exact this) a'.defers a' w' rfl rfl h4
    | ret =>
      obtain ⟨s', ⟨h1, h2⟩, h3, ρ', A', h4⟩ := hq
      exact leaves_of (fun a'' w'' ht h5 => by
        have := finK_sound hT hn0 hres (a := a'') h5 h2
        rw [h1, ht] at this
        exact this) a'.defers a' w' rfl rfl h4
    | exit i => obtain ⟨s', h1, _⟩ := hq; exact h1.elim
    | _ => exact hq.elim))
end Go.Vc
namespace Go.Vc
open Go.Sort
variable {P : Program} {E : Entry} {w : World} {ρ : Nat → Nat} {A : FA}

theorem putRow_setRow {α : Type} [Inhabited α] {enc : α → Value} {b : Nat} {d : Array α} {vs : Array Value} {T : TypeId} {fr : Nat × Nat} (h : w.heap[b]? = some (.cells vs T fr)) : putRow enc w b 0 d = w.setRow b (putCells enc 0 d vs) := by
  have e : putRow enc w b 0 d = mapBlock w b fun _ => putCells enc 0 d vs := mapBlock_congr _ _ _ _ fun c e fr' h' => by rw [h] at h'; cases h'; rfl
  rw [e]
  unfold mapBlock World.setRow
  congr 2
/-- A state without slots. -/
theorem SatW.bare {H : Nat → AO} {F : List Fam} (h : SatW E H F w ρ A) : Sat E ⟨fun _ => .any, H, F⟩ 0 ⟨#[], []⟩ w ρ A := { h with env := fun _ => .any _, tsize := rfl, defers := .nil }
theorem Sat.ahead {S : FS} {tm : Nat} {a : Act} (h : Sat E S tm a w ρ A) (q : Nat) : Sat E S tm a (Sort.ahead w q) ρ A :=
  h.turn (w' := Sort.ahead w q) rfl rfl rfl (Nat.le_refl _) (fun _ _ _ _ hb => hb) (fun _ _ => rfl) (fun _ _ h => h) rfl ⟨h.defers.1, h.defers.2⟩
theorem get_putCells {d : List Int} {vs : Array Value} {i : Nat} (hi : i < d.length) (hv : i < vs.size) : (putCells (Value.int .i64) 0 d.toArray vs)[i]? = some (.int .i64 (d.getD i 0)) := by
  simp [putCells, hi, hv, List.getD]
/-- Object k holds l2 now. -/
theorem SatW.put {H : Nat → AO} {F : List Fam} (h : SatW E H F w ρ A) {k : Nat} {l l2 : List Int} (hk : H k = .iarr l) {d : List Int} (hd : d.length = l.length) (hp : l2 = d.take l2.length) (hle : l2.length ≤ d.length) (q : Nat) :
    SatW E (mapH (killF k) H k (.iarr l2)) F (putRow (Value.int .i64) (Sort.ahead w q) (ρ k) 0 d.toArray) ρ A ∧ ∀ n, (ctxOf E H w ρ A).room k n → ∀ H' A', (ctxOf E H' (putRow (Value.int .i64) (Sort.ahead w q) (ρ k) 0 d.toArray) ρ A').room k n := by
  have hs := (h.bare.ahead q)
  have ho := hs.obj k
  have ho : RepO (ctxOf E H (Sort.ahead w q) ρ A) k (H k) := ho
  rw [hk] at ho
  obtain ⟨vs, T, h1, h2, h3, h4⟩ := ho
  have h1 : (Sort.ahead w q).heap[ρ k]? = some (.cells vs T (0, 0)) := h1
  have hal : alive H k := by rw [alive, hk]; simp
  have hsz : (putCells (Value.int .i64) 0 d.toArray vs).size = vs.size := by simp [putCells]
  rw [Nat.mul_one] at h2
  have hobj : ∀ c : Ctx, c.w.heap[c.ρ k]? = some (.cells (putCells (Value.int .i64) 0 d.toArray vs) T (0, 0)) → RepO c k (.iarr l2) := by
    intro c hb
    refine ⟨_, T, hb, by rw [hsz]; omega, fun v hv => ?_, fun i e j a v hi hj hv => ?_⟩
    · obtain ⟨i, hi, rfl⟩ := List.getElem_of_mem hv
      simp only [putCells, Array.toList_mapIdx, List.getElem_mapIdx]
      split
      · rfl
      · exact h3 _ (List.getElem_mem _)
    · obtain ⟨x, hx, rfl⟩ := icells_get.1 hi
      cases j with
      | succ j => simp at hj
      | zero =>
        simp only [List.getElem?_cons_zero, Option.some.injEq] at hj
        subst hj
        have hil := (List.getElem?_eq_some_iff.1 hx).1
        rw [Nat.mul_one, Nat.add_zero, get_putCells (by omega) (by omega)] at hv
        rw [hp, List.getElem?_take, if_pos hil] at hx
        simp only [Option.some.injEq] at hv
        subst hv
        have : d.getD i 0 = x := by simp [List.getD, hx]
        rw [this]
        exact ⟨.val _, rfl⟩
  rw [putRow_setRow h1]
  -- the size of the row may shrink: the object is laid anew in its block
  have st : StepOk E H (Sort.ahead w q) ρ A k (.iarr l2) (ρ k) ((Sort.ahead w q).setRow (ρ k) (putCells (Value.int .i64) 0 d.toArray vs)) (mapH (killF k) H k (.iarr l2)) :=
    ⟨rfl, rfl, rfl, by simp, fun b' _ hne => setRow_other _ _ _ _ (hne hal), fun _ => ⟨by simpa using (h.place k hal).1, .inl ⟨hal, rfl⟩⟩, fun i hi => by simp [alive, mapH, hi, mapO_dead], by simp [mapH], fun cs e => (by cases e), fun _ _ _ => ⟨rfl, hal⟩,
      fun _ _ _ us T' fr h0 => ⟨_, T, (0, 0), setRow_heap _ _ vs _ T (0, 0) h1, by rw [h1] at h0; cases h0; rw [hsz]; exact Nat.le_refl _⟩⟩
  have hnew : ((Sort.ahead w q).setRow (ρ k) (putCells (Value.int .i64) 0 d.toArray vs)).heap[ρ k]? = some (.cells (putCells (Value.int .i64) 0 d.toArray vs) T (0, 0)) := setRow_heap _ _ vs _ T (0, 0) h1
  refine ⟨?_, ?_⟩
  · have := (hs.stepMap (killF k) st (fun r hr => by simp [killF, hr]) (hobj _ (by show ((Sort.ahead w q).setRow (ρ k) (putCells (Value.int .i64) 0 d.toArray vs)).heap[setρ ρ k (ρ k) k]? = _; rw [setρ_self]; exact hnew)) fun r u hr _ => by simp only [killF, hr, if_true]; exact .any u).toSatW
    rw [setρ_self] at this
    exact this
  · rintro n ⟨us, T', fr, g1, g2⟩ H' A'
    have g1 : (Sort.ahead w q).heap[ρ k]? = some (.cells us T' fr) := g1
    rw [h1] at g1
    cases g1
    exact ⟨_, T, (0, 0), hnew, by rw [hsz]; exact g2⟩
end Go.Vc
namespace Go.Vc
theorem litK_in {n : Nat} {k : Nat → Prop} (h : k n) : litK n k := by
  unfold litK
  split <;> exact h
/-- A number that is not written out, looked at: what is asked of all numbers alike is asked of this one. -/
theorem litM_in {n : Nat} {X0 X1 X2 X3 X4 X5 X6 X7 X8 X9 X10 X11 X12 X13 X14 X15 : Prop} {hd : Nat → Prop} (h : hd n) (e0 : hd 0 = X0) (e1 : hd 1 = X1) (e2 : hd 2 = X2) (e3 : hd 3 = X3) (e4 : hd 4 = X4) (e5 : hd 5 = X5) (e6 : hd 6 = X6) (e7 : hd 7 = X7) (e8 : hd 8 = X8) (e9 : hd 9 = X9) (e10 : hd 10 = X10) (e11 : hd 11 = X11) (e12 : hd 12 = X12) (e13 : hd 13 = X13) (e14 : hd 14 = X14) (e15 : hd 15 = X15) : (match (generalizing := false) n with
    | 0 => X0
    | 1 => X1
    | 2 => X2
    | 3 => X3
    | 4 => X4
    | 5 => X5
    | 6 => X6
    | 7 => X7
    | 8 => X8
    | 9 => X9
    | 10 => X10
    | 11 => X11
    | 12 => X12
    | 13 => X13
    | 14 => X14
    | 15 => X15
    | n => hd n) := by
  subst e0 e1 e2 e3 e4 e5 e6 e7 e8 e9 e10 e11 e12 e13 e14 e15
  exact litK_in (k := hd) h
theorem forceC_in {x : AV} {k : AV → Prop} (h : k x) : forceC x k := by
  cases x with
  | ptr i o => exact litK_in (k := fun i => litK o fun o => k (.ptr i o)) (litK_in (k := fun o => k (.ptr i o)) h)
  | el i j o => exact litK_in (k := fun i => litK o fun o => k (.el i j o)) (litK_in (k := fun o => k (.el i j o)) h)
  | own i => exact litK_in (k := fun i => k (.own i)) h
  | sub i p q => exact litK_in (k := fun i => k (.sub i p q)) h
  | win i o n => exact litK_in (k := fun i => litK o fun o => k (.win i o n)) (litK_in (k := fun o => k (.win i o n)) h)
  | clo f i => exact litK_in (k := fun i => k (.clo f i)) h
  | ifp t i o => exact litK_in (k := fun i => litK o fun o => k (.ifp t i o)) (litK_in (k := fun o => k (.ifp t i o)) h)
  | rp f i o => exact litK_in (k := fun o => k (.rp f i o)) h
  | _ => exact h
theorem forceL_in : ∀ {l : List AV} {k : List AV → Prop}, k l → forceL l k
  | [], _, h => h
  | _ :: t, _, h => forceC_in (forceL_in (l := t) h)
/-- The same, the list in other words. -/
theorem forceL_is {l l' : List AV} {k : List AV → Prop} (e : l = l') (h : k l') : forceL l k := by
  rw [e]
  exact forceL_in h
theorem natK_in : ∀ {l : List Nat} {k : List Nat → Prop}, k l → natK l k
  | [], _, h => h
  | _ :: t, _, h => natK_in (l := t) h
theorem natK_is {l l' : List Nat} {k : List Nat → Prop} (e : l = l') (h : k l') : natK l k := by
  rw [e]
  exact natK_in h
theorem leVK_refl {x : AV} {X : Prop} (h : X) : leVK x x X := by
  cases x <;> try exact ⟨rfl, h⟩
  case any => exact h
  case val v => cases v <;> first | exact ⟨rfl, h⟩ | exact ⟨rfl, rfl, h⟩
  case sl => exact ⟨rfl, rfl, h⟩
  case zsl => exact ⟨rfl, rfl, h⟩
theorem leEK_refl : ∀ {l : List AV} {X : Prop}, X → leEK l l X
  | [], _, h => h
  | _ :: t, _, h => leVK_refl (leEK_refl (l := t) h)
theorem leEK_is {l l' : List AV} {X : Prop} (e : l' = l) (h : X) : leEK l l' X := by
  rw [e]
  exact leEK_refl h
theorem mapC_pure {f : AV → AV} {x : AV} (h : pureB x = true) : mapC f x = x := by
  cases x <;> first | rfl | (simp [pureB] at h)
theorem map_pure {f : AV → AV} : ∀ {l : List AV}, (∀ x ∈ l, pureB x = true) → l.map (mapC f) = l
  | [], _ => rfl
  | x :: t, h => by
    rw [List.map_cons, mapC_pure (h x (by simp)), map_pure fun y hy => h y (by simp [hy])]
theorem refs_pure : ∀ {l : List AV}, (∀ x ∈ l, pureB x = true) → l.flatMap refsC = []
  | [], _ => rfl
  | x :: t, h => by
    have h1 : refsC x = [] := by
      have := h x (by simp)
      cases x <;> first | rfl | (simp [pureB] at this)
    rw [List.flatMap_cons, h1, refs_pure fun y hy => h y (by simp [hy])]
    rfl
end Go.Vc
namespace Go.Vc
variable {P : Program}
theorem meth_ptr {t : TypeId} {nm : String} {i : TypeInfo} {m : Method} {f : FuncId} {e : TypeId} (hi : P.info? t = some i) (hm : i.methods.find? (fun x => x.name == nm) = some m) (hp : m.path = #[]) (hf : m.func = some (f, true)) (hu : P.underlying t = some (.pointer e)) :
    MethOk P t nm (f, true, e) := by
  intro a args w
  have hd : ∃ n, Made.depth = n + 1 := ⟨_, rfl⟩
  obtain ⟨n, hn⟩ := hd
  simp [callMethod, hn, ← Nat.add_assoc, Go.method, typeInfo, hi, hm, hp, follow, hf, receiverAt, underlying, hu, Place.get]
theorem wrap_nil (ts : Array TypeId) (t : TypeId) (a : Addr) (x y : String) : Builtin.ssaWrapNilChk_ ts t #[.pointer (some a), strVal x, strVal y] = pure (.pointer (some a)) := rfl
theorem meth_val {t : TypeId} {nm : String} {i : TypeInfo} {m : Method} {f : FuncId} {e : TypeId} (hi : P.info? t = some i) (hm : i.methods.find? (fun x => x.name == nm) = some m) (hp : m.path = #[]) (hf : m.func = some (f, false)) (hu : P.underlying t = some (.pointer e)) :
    MethOk P t nm (f, false, e) := by
  intro a args w
  have hd : ∃ n, Made.depth = n + 1 := ⟨_, rfl⟩
  obtain ⟨n, hn⟩ := hd
  simp [callMethod, hn, ← Nat.add_assoc, Go.method, typeInfo, hi, hm, hp, follow, hf, receiverAt, underlying, hu, Place.get, wrap_nil, asAddr]
  cases (loadVar e a).run P w <;> rfl
end Go.Vc
namespace Go.Vc
variable {P : Program} {T : TT} {C : CT} {E : Entry} {w : World} {ρ : Nat → Nat} {A : FA} {s : LS} {a : Act} {o : Oper} {n0 : Nat} {Q : Exit → Act → World → Prop}

/-- Nothing that came in may be read but the memory of its own. -/
structure SpOk (E : Entry) : Prop where
  ok : ∀ b, ¬ E.ok0 b
  n0 : E.n0 = 0
  fx : E.fx = false
  Z : ∀ f i, f < E.A0.n → E.Z (E.A0.at_ f i)
/-- What is still known of a value. -/
def spC (k : Nat) (x : AV) : AV := match x with
  | .val v => .val v
  | .bytes l => .bytes l
  | .zsl z l => .zsl z l
  | .own i => if i = k then .any else .own i
  | .ptr i off => if i = k then .any else .ptr i off
  | _ => .any
def spA (k : Nat) (x : AV) : AV := match x with
  | .agg cs => .agg (cs.map (spC k))
  | x => spC k x
def spO (k : Nat) (o : AO) : AO := match o with
  | .cells cs => .cells (cs.map (spC k))
  | o => o
def spHf (k : Nat) (H : Nat → AO) (i : Nat) : AO := if i = k then .dead else spO k (H i)
def spH (k : Nat) : Nat → List AO → (List AO → Prop) → Prop
  | _, [], K => K []
  | i, o :: r, K => if i = k then spH k (i + 1) r fun r => K (.dead :: r) else match o with
    | .dead => spH k (i + 1) r fun r => K (.dead :: r)
    | .cells cs => forceO (.cells (cs.map (spC k))) fun o => spH k (i + 1) r fun r => K (o :: r)
    | .iarr l => spH k (i + 1) r fun r => K (.iarr l :: r)
    | .arr z l => (∀ e ∈ l, ∀ a ∈ e, zB a = true) ∧ spH k (i + 1) r fun r => K (.arr z l :: r)
def zE : AV → Bool
  | .iface _ (.val _) => true
  | a => zB a
/-- What the package variables hold lies in no memory that is only read. -/
def famsZ (Fs : List Fam) : Prop := ∀ fam ∈ Fs, ∀ cs ∈ fam.objs, ∀ a ∈ cs, zE a = true
def spoilK (k : Nat) (Fs : List Fam) (s : LS) (K : LS → Prop) : Prop := match s with
  | ⟨env, H, F0, NF⟩ => F0 = Fs ∧ NF = [] ∧ famsZ Fs ∧ mapK (spA k) env fun env => spH k 0 H fun H => K ⟨env, H, F0, NF⟩

theorem spH_out {k : Nat} : ∀ {i : Nat} {H : List AO} {K : List AO → Prop}, spH k i H K → ∃ H', K H' ∧ H'.length = H.length ∧ (∀ j, listH H' j = if i + j = k then .dead else spO k (listH H j)) ∧ ∀ j, i + j ≠ k → ∀ z l, listH H j = .arr z l → ∀ e ∈ l, ∀ a ∈ e, zB a = true
  | i, [], K, h => ⟨[], h, rfl, fun j => by simp [listH, spO], fun j _ z l e => by simp [listH] at e⟩
  | i, o :: r, K, h => by
    have key : ∀ {o' : AO} {K' : List AO → Prop}, spH k (i + 1) r K' → (∀ r', K' r' → K (o' :: r')) → (o' = if i = k then .dead else spO k o) → (i ≠ k → ∀ z l, o = .arr z l → ∀ e ∈ l, ∀ a ∈ e, zB a = true) →
        ∃ H', K H' ∧ H'.length = (o :: r).length ∧ (∀ j, listH H' j = if i + j = k then .dead else spO k (listH (o :: r) j)) ∧ ∀ j, i + j ≠ k → ∀ z l, listH (o :: r) j = .arr z l → ∀ e ∈ l, ∀ a ∈ e, zB a = true := by
      intro o' K' h1 h2 h3 h4
      obtain ⟨H', q1, q2, q3, q4⟩ := spH_out h1
      refine ⟨o' :: H', h2 _ q1, by simp [q2], fun j => ?_, fun j hj z l e => ?_⟩
      · cases j with
        | zero => simpa [listH] using h3
        | succ j =>
          have := q3 j
          rw [show i + 1 + j = i + (j + 1) from by omega] at this
          simpa [listH] using this
      · cases j with
        | zero => exact h4 (by simpa using hj) z l (by simpa [listH] using e)
        | succ j => exact q4 j (by omega) z l (by simpa [listH] using e)
    unfold spH at h
    split at h
    · rename_i e
      exact key h (fun r' hr => hr) (by rw [if_pos e]) (fun hn => absurd e hn)
    · rename_i e
      split at h
      · exact key h (fun r' hr => hr) (by rw [if_neg e]; rfl) (fun _ z l e => by cases e)
      · exact key (forceO_out h) (fun r' hr => hr) (by rw [if_neg e]; rfl) (fun _ z l e => by cases e)
      · exact key h (fun r' hr => hr) (by rw [if_neg e]; rfl) (fun _ z l e => by cases e)
      · exact key h.2 (fun r' hr => hr) (by rw [if_neg e]; rfl) (fun _ z l e => by cases e; exact h.1)

/-- The state behind such a call. -/
theorem Sat.spoil {S : FS} {tm k : Nat} (hE : SpOk E) (h : Sat E S tm a w ρ A) (hF : S.F.length = E.A0.n) (hz : famsZ S.F) (hk : alive S.H k) (harr : ∀ i, i ≠ k → ∀ z l, S.H i = .arr z l → ∀ e ∈ l, ∀ a ∈ e, zB a = true) {w' : World}
    (hos : w'.os = w.os) (htp : w'.tape = w.tape) (hout : w'.output = w.output) (hsz : w.heap.size ≤ w'.heap.size)
    (hfr : ∀ b, b < w.heap.size → ¬ (okOf E S.H w ρ b ∧ ∃ vs T fr, w.heap[b]? = some (.cells vs T fr)) → b ≠ ρ k → w'.heap[b]? = w.heap[b]?) :
    Sat E ⟨fun t => spA k (S.env t), spHf k S.H, S.F⟩ tm a w' ρ A := by
  have hlo : ∀ b, okOf E S.H w ρ b → E.w0.heap.size ≤ b := fun b hb => (hb.resolve_left (hE.ok b)).1
  have hAn : A.n = E.A0.n := by rw [← hF]; exact h.fl.symm
  have hal : ∀ i, alive (spHf k S.H) i → i ≠ k ∧ alive S.H i := by
    intro i hi
    unfold alive spHf at hi
    split at hi
    · exact absurd rfl hi
    · rename_i e
      refine ⟨e, fun hd => hi ?_⟩
      rw [hd]; rfl
  have hobj : ∀ i, i ≠ k → alive S.H i → w'.heap[ρ i]? = w.heap[ρ i]? := fun i hi ha =>
    hfr _ (h.place i ha).1 (fun hb => h.ok_ne hb.1 ha rfl) fun e => hi (h.inj i k ha hk e)
  have hZ : ∀ b, E.Z b → w'.heap[b]? = w.heap[b]? := fun b hb =>
    hfr b (h.z_lt hb) (fun hk' => by have h1 := hlo b hk'.1; have h2 := (h.zB b hb).1; omega) fun e => h.z_ne hb hk e.symm
  have hzm : ∀ {x : AV} {v : Value}, zB x = true → RepV (ctxOf E S.H w ρ A) x v → RepV (ctxOf E (spHf k S.H) w' ρ A) x v := fun hx hv =>
    hv.z_move (c := ctxOf E S.H w ρ A) (c' := ctxOf E (spHf k S.H) w' ρ A) (fun b hb => ⟨hb, hZ b hb⟩) hx
  have href : ∀ {i : Nat} {r : AV} {v : Value}, i ≠ k → refOf r = some i → alive S.H i → RepV (ctxOf E S.H w ρ A) r v → RepV (ctxOf E (spHf k S.H) w' ρ A) r v := by
    intro i r v hi hr ha hv
    have e1 : spHf k S.H i = spO k (S.H i) := by unfold spHf; rw [if_neg hi]
    refine hv.ref_other hr rfl ?_ (fun cs hcs => ?_) fun vs T fr hb => ⟨vs, T, fr, (hobj i hi ha).trans hb, Nat.le_refl _⟩
    · show (spHf k S.H i).info = (S.H i).info
      rw [e1]
      cases S.H i <;> rfl
    · have hcs : S.H i = .cells cs := hcs
      refine ⟨cs.map (spC k), ?_⟩
      show spHf k S.H i = _
      rw [e1, hcs]; rfl
  have hC : ∀ {x : AV} {v : Value}, RepV (ctxOf E S.H w ρ A) x v → RepV (ctxOf E (spHf k S.H) w' ρ A) (spC k x) v := by
    intro x v hv
    unfold spC
    split
    · cases hv; exact .val _
    · exact hzm rfl hv
    · exact hzm rfl hv
    · split
      · exact .any _
      · rename_i hi
        obtain ⟨i', hi', ha⟩ := RepO.alive_of rfl hv
        cases hi'
        exact href hi rfl ha hv
    · split
      · exact .any _
      · rename_i hi
        obtain ⟨i', hi', ha⟩ := RepO.alive_of rfl hv
        cases hi'
        exact href hi rfl ha hv
    · exact .any _
  have hAg : ∀ {x : AV} {v : Value}, RepV (ctxOf E S.H w ρ A) x v → RepV (ctxOf E (spHf k S.H) w' ρ A) (spA k x) v := by
    intro x v hv
    unfold spA
    split
    · cases hv with
      | agg cs vs hl h1 hh =>
        refine .agg _ vs (by simpa using hl) h1 fun i b u hb hu => ?_
        rw [List.getElem?_map] at hb
        obtain ⟨b0, hb0, rfl⟩ := Option.map_eq_some_iff.1 hb
        exact hC (hh i b0 u hb0 hu)
    · exact hC hv
  refine { os := hos.trans h.os, tape := htp.trans h.tape, output := hout.trans h.output, size := Nat.le_trans h.size hsz, okB := h.okB, zB := h.zB, fl := h.fl, nf := h.nf, A0 := h.A0, tsize := h.tsize,
           frame := fun b hb hn => ?_, place := fun i hi => ?_, inj := fun i j hi hj => h.inj i j (hal i hi).2 (hal j hj).2, stay := fun i cs hi => absurd hi (by rw [hE.n0]; omega), fix := fun hx => absurd hx (by rw [hE.fx]; decide),
           grow := fun hx => absurd hx (by rw [hE.fx]; decide), pins := fun p hp => absurd (h.pins p hp).1 (hE.ok _), obj := fun i => ?_, fam := fun f fam hf => ?_, env := fun t => hAg (h.env t), defers := ?_ }
  · rw [hfr b (Nat.lt_of_lt_of_le hb h.size) (fun hk' => by have := hlo b hk'.1; omega) fun e => ?_]
    · exact h.frame b hb hn
    · rcases (h.place k hk).2 with h1 | h1
      · omega
      · have := hE.n0; omega
  · obtain ⟨hi, ha⟩ := hal i hi
    exact ⟨Nat.lt_of_lt_of_le (h.place i ha).1 hsz, (h.place i ha).2⟩
  · show RepO _ i (spHf k S.H i)
    by_cases hi : i = k
    · have : spHf k S.H i = .dead := by unfold spHf; rw [if_pos hi]
      rw [this]; trivial
    · have e1 : spHf k S.H i = spO k (S.H i) := by unfold spHf; rw [if_neg hi]
      rw [e1]
      have ho := h.obj i
      cases hH : S.H i with
      | dead => trivial
      | cells cs =>
        have ha : alive S.H i := by rw [alive, hH]; simp
        rw [hH] at ho
        obtain ⟨vs, T, h1, h2, h3, h4⟩ := ho
        refine ⟨vs, T, (hobj i hi ha).trans h1, by simpa using h2, h3, fun j b v hb hv => ?_⟩
        rw [List.getElem?_map] at hb
        obtain ⟨b0, hb0, rfl⟩ := Option.map_eq_some_iff.1 hb
        exact hC (h4 j b0 v hb0 hv)
      | iarr l =>
        have ha : alive S.H i := by rw [alive, hH]; simp
        rw [hH] at ho
        obtain ⟨vs, T, h1, h2, h3, h4⟩ := ho
        refine ⟨vs, T, (hobj i hi ha).trans h1, h2, h3, fun i' e j b v hi' hj hv => ?_⟩
        obtain ⟨g1, g2⟩ := h4 i' e j b v hi' hj hv
        refine ⟨hzm ?_ g1, g2⟩
        obtain ⟨x, _, rfl⟩ := icells_get.1 hi'
        cases j with
        | zero => simp at hj; subst hj; rfl
        | succ j => simp at hj
      | arr z l =>
        have ha : alive S.H i := by rw [alive, hH]; simp
        rw [hH] at ho
        obtain ⟨vs, T, h1, h2, h3, h5, h4⟩ := ho
        refine ⟨vs, T, (hobj i hi ha).trans h1, h2, h3, h5, fun i' e j b v hi' hj hv => ?_⟩
        obtain ⟨g1, g2⟩ := h4 i' e j b v hi' hj hv
        exact ⟨hzm (harr i hi z l hH e (List.mem_of_getElem? hi') b (List.mem_of_getElem? hj)) g1, g2⟩
  · have hlt := h.fam_lt hf
    have hf2 : f < E.A0.n := by omega
    have hr := h.fam f fam hf
    have hat : ∀ i, E.Z (A.at_ f i) := fun i => by rw [h.A0 f hf2]; exact hE.Z f i hf2
    refine ⟨fun i cs hi => ?_, hr.2.1, fun g hg => ?_, fun hp i cs hi => ?_⟩
    · obtain ⟨_, vf, hv⟩ := hr.1 i cs hi
      refine ⟨.inr (hat i), vf, fun j b hj => ?_⟩
      obtain ⟨g1, g2, g3, g4⟩ := hv j b hj
      refine ⟨(World.cell?_of_block (w := w) (hZ _ (hat i))).trans g1, g2, g3, ?_⟩
      have hq := hz fam (List.mem_of_getElem? hf) cs (List.mem_of_getElem? hi) b (List.mem_of_getElem? hj)
      unfold zE at hq
      split at hq
      · revert g4
        generalize vf j = u
        intro g4
        cases g4 with
        | iface t x v hp hr =>
          cases hr
          exact .iface _ _ _ hp (.val _)
      · exact hzm hq g4
    · obtain ⟨g1, g2⟩ := hr.2.2.1 g hg
      refine ⟨g1, fun cs hcs => ?_⟩
      obtain ⟨vs, T, fr, g3, g4⟩ := g2 cs hcs
      have := hZ _ (hat 0)
      have g1 : A.at_ f 0 = g := g1
      rw [g1] at this
      exact ⟨vs, T, fr, this.trans g3, g4⟩
    · obtain ⟨vs, T, g3⟩ := hr.2.2.2 hp i cs hi
      exact ⟨vs, T, (hZ _ (hat i)).trans g3⟩
  · refine ⟨h.defers.1, fun d hd => ?_⟩
    obtain ⟨D, h1, h2, h3, h4⟩ := h.defers.2 d hd
    have h4 : w.heap[D]? = some (.deferred (some [])) := h4
    have hlt := (Array.getElem?_eq_some_iff.1 h4).1
    have hsame : w'.heap[D]? = w.heap[D]? := hfr D hlt (fun hb => by obtain ⟨_, vs, T, fr, h5⟩ := hb; rw [h4] at h5; cases h5) fun e => h.ok_ne h3 hk e.symm
    refine ⟨D, h1, h2, ?_, hsame.trans h4⟩
    rcases h3 with h3 | ⟨g1, g2, g3, g4⟩
    · exact .inl h3
    · exact .inr ⟨g1, Nat.lt_of_lt_of_le g2 hsz, fun i hi => g3 i (hal i hi).2, g4.same hsame⟩

/-- A function that writes the object it is given and the memory that this leads to. -/
def Spoils (P : Program) (f : FuncId) (CS : AO → Int → (Int → Prop) → Prop) : Prop :=
  ∀ (c : Ctx) (o : AO) (v : Value) (n : Int) (K : Int → Prop), CS o n K → c.H 0 = o → RepO c 0 o → RepV c (.own 0) v → (∀ b, c.ok b → unfr c.w b ∧ c.ρ 0 ≠ b) →
    Calls P f #[v, .int .i64 n] c.w fun e w' => ∃ m, e = .returned (.int .i64 m) ∧ K m ∧ w'.os = c.w.os ∧ w'.tape = c.w.tape ∧ w'.output = c.w.output ∧ c.w.heap.size ≤ w'.heap.size ∧
      ∀ b, b < c.w.heap.size → ¬ (c.ok b ∧ ∃ vs T fr, c.w.heap[b]? = some (.cells vs T fr)) → b ≠ c.ρ 0 → w'.heap[b]? = c.w.heap[b]?

def spoilOp (f : FuncId) (CS : AO → Int → (Int → Prop) → Prop) (Fs : List Fam) (o : Oper) (s : LS) (K : LS → Prop) : Prop :=
  match o.op with
  | .call { callee := .value (.func g), args, argTypes := _ } => g = f ∧ match args.toList.map s.ev with
    | [.own k, .val (.int .i64 n)] => isAlive (listH s.H k) = true ∧ CS (listH s.H k) n fun m => spoilK k Fs s fun s => putK s o.dst (.val (.int .i64 m)) K
    | _ => False
  | _ => False

theorem spoilOp_sound (hE : SpOk E) {f : FuncId} {CS : AO → Int → (Int → Prop) → Prop} (hsp : Spoils P f CS) {fn : Func} (hfn : P.funcs[f]? = some fn) (hname : (fn.name == "runtime.NumGoroutine") = false) (hbody : fn.body.isNone = false)
    {Fs : List Fam} (hFs : Fs.length = E.A0.n) (hs : SatL E s a w ρ A) {K : LS → Prop} (h : spoilOp f CS Fs o s K) : o.wp P a w (fun a' w' => ∃ s', K s' ∧ E.n0 ≤ s'.H.length ∧ ∃ ρ A, SatL E s' a' w' ρ A) Q := by
  unfold spoilOp at h
  split at h
  case h_2 => exact h.elim
  case h_1 g args ats hop =>
    obtain ⟨rfl, h⟩ := h
    split at h
    case h_2 => exact h.elim
    case h_1 k n hargs =>
      obtain ⟨hal, h⟩ := h
      have hal : alive (listH s.H) k := isAlive_out hal
      obtain ⟨x, y, hxy⟩ : ∃ x y, args.toList = [x, y] := by
        have := congrArg List.length hargs
        simp only [List.length_map, List.length_cons, List.length_nil] at this
        match hq : args.toList, this with
        | [x, y], _ => exact ⟨x, y, rfl⟩
      rw [hxy] at hargs
      simp only [List.map_cons, List.map_nil, List.cons.injEq, and_true] at hargs
      obtain ⟨hx, hy⟩ := hargs
      have hrx := ev_rep hs x
      have hry := ev_rep hs y
      rw [hx] at hrx
      rw [hy] at hry
      have hvy : a.eval y = .int .i64 n := by
        revert hry
        generalize a.eval y = u
        intro hry
        cases hry; rfl
      have hrun : (execOp a.eval o).run P w = .ok (.enter g #[a.eval x, .int .i64 n]) w := by
        have hnm : ¬ (fn.name == "runtime.NumGoroutine") = true := by rw [hname]; simp
        have hbd : ¬ fn.body.isNone = true := by rw [hbody]; simp
        have ea : args.map a.eval = #[a.eval x, .int .i64 n] := by
          apply Array.ext'
          simp [hxy, hvy]
        have hcl : a.eval (.func g) = .func (.func g) #[] #[] := rfl
        simp only [execOp, hop, resolve, hcl, Deferred.ofValue, Sem.run_bind, Sem.run_pure, Result.andThen_ok, invoke, ea]
        simp only [Array.empty_append, Sem.run_bind, Result.andThen_ok, callFunc, run_program, hfn]
        rw [if_neg hnm, if_neg hbd]
        simp
      -- the callee's view
      have kp : Keeps (ctxOf E s.toF.H w ρ A) ⟨w, okOf E s.toF.H w ρ, E.Z, fun _ => ρ k, A, fun _ => listH s.H k⟩ :=
        ⟨fun _ hb => hb, fun _ _ => rfl, fun _ hb => hb, fun _ _ => rfl, Nat.le_refl _, fun _ _ => rfl⟩
      have ho : RepO ⟨w, okOf E s.toF.H w ρ, E.Z, fun _ => ρ k, A, fun _ => listH s.H k⟩ 0 (mapO (fun _ => .any) (listH s.H k)) := (hs.obj k).move kp (fun _ => .any) (fun r v _ _ => .any v) rfl
      have hinf : ∃ sz n, (listH s.H k).info = some (sz, n) := by
        revert hrx
        generalize a.eval x = u
        intro hrx
        cases hrx with
        | own _ sz n cap hk _ _ => exact ⟨sz, n, hk⟩
      have ho : RepO ⟨w, okOf E s.toF.H w ρ, E.Z, fun _ => ρ k, A, fun _ => listH s.H k⟩ 0 (listH s.H k) := by
        obtain ⟨sz, n, hi⟩ := hinf
        revert ho
        generalize listH s.H k = ob at hi
        intro ho
        cases ob with
        | cells cs => simp [AO.info] at hi
        | _ => exact ho
      have hv : RepV ⟨w, okOf E s.toF.H w ρ, E.Z, fun _ => ρ k, A, fun _ => listH s.H k⟩ (.own 0) (a.eval x) := hrx.reIdx (i := 0) rfl rfl rfl (fun cs hcs => ⟨cs, hcs⟩) rfl
      have hc := hsp ⟨w, okOf E s.toF.H w ρ, E.Z, fun _ => ρ k, A, fun _ => listH s.H k⟩ (listH s.H k) (a.eval x) n _ h rfl ho hv (fun b hb => ⟨(hb.resolve_left (hE.ok b)).2.2.2, hs.toSatW.ok_ne hb hal⟩)
      unfold Oper.wp
      rw [hrun]
      refine Calls.mono hc ?_
      rintro e w' ⟨m, rfl, hK, q1, q2, q3, q4, q5⟩
      obtain ⟨env, H, F0, NF⟩ := s
      unfold spoilK at hK
      obtain ⟨rfl, rfl, hz, hK⟩ := hK
      have hK := mapK_out hK
      obtain ⟨H', hK, l1, l2, l3⟩ := spH_out hK
      obtain ⟨s', hK, p1, p2, p3⟩ := putK_out hK
      have hF : (LS.toF ⟨env, H, F0, []⟩).F.length = E.A0.n := by simpa [LS.toF] using hFs
      have hsat := Sat.spoil (k := k) hE hs hF (by simpa [LS.toF] using hz) hal (fun i hi z l e => l3 i (by omega) z l e) q1 q2 q3 q4 q5
      refine ⟨s', hK, by rw [hE.n0]; omega, ρ, A, ?_⟩
      unfold SatL
      rw [p1, p2]
      have e1 : (LS.toF ⟨env.map (spA k), H', F0, []⟩) = ⟨fun t => spA k ((LS.toF ⟨env, H, F0, []⟩).env t), spHf k (listH H), F0 ++ []⟩ := by
        simp only [LS.toF, FS.mk.injEq, and_true]
        refine ⟨?_, ?_⟩
        · funext t
          simp only [List.getD_eq_getElem?_getD, List.getElem?_map]
          cases env[t]? <;> rfl
        · funext j
          have := l2 j
          rw [Nat.zero_add] at this
          rw [this]; rfl
      have h3 := hsat.put o.dst (.val (.int .i64 m))
      rw [e1]
      have e2 : (env.map (spA k)).length = env.length := by simp
      rw [e2, List.append_nil]
      have e3 : (LS.toF ⟨env, H, F0, []⟩).F = F0 := by simp [LS.toF]
      rw [e3] at h3
      exact h3

/-- The callee's table has its body at hand. -/
structure SpFn (P : Program) (f : FuncId) (CS : AO → Int → (Int → Prop) → Prop) : Prop where
  sp : Spoils P f CS
  fn : ∃ fn, P.funcs[f]? = some fn ∧ (fn.name == "runtime.NumGoroutine") = false ∧ fn.body.isNone = false

def isSp (f : FuncId) (o : Oper) : Bool := match o.op with
  | .call { callee := .value (.func g), args := _, argTypes := _ } => Nat.beq g f && o.guard.isNone
  | _ => false
/-- A region with such a call among its operations. -/
def spOps (T : TT) (C : CT) (n0 : Nat) (f : FuncId) (CS : AO → Int → (Int → Prop) → Prop) (Fs : List Fam) (ops : Array Oper) : List Oper → LS → (LS → Prop) → Prop
  | [], _, _ => False
  | o :: r, s, K => match isSp f o with
    | true => spoilOp f CS Fs o s fun s => vcOps T C n0 ops r s K
    | false => vcG ops o (vcOp T C n0 [] o) s fun s => spOps T C n0 f CS Fs ops r s K
theorem spOps_sound (hE : SpOk E) (hT : TOk P T) (hC : COk P C) (hn0 : E.At n0 C) {f : FuncId} {CS : AO → Int → (Int → Prop) → Prop} (hsp : SpFn P f CS) {Fs : List Fam} (hFs : Fs.length = E.A0.n) {ops : Array Oper} {K : LS → Prop}
    (hQ : ∀ s' a' w' ρ' A', K s' → E.n0 ≤ s'.H.length → SatL E s' a' w' ρ' A' → Q .normal a' w') :
    ∀ (l : List Oper) (s : LS) (a : Act) (w : World) (ρ : Nat → Nat) (A : FA), E.n0 ≤ s.H.length → SatL E s a w ρ A → spOps T C n0 f CS Fs ops l s K → wpList P ops Q l a w := by
  intro l
  induction l with
  | nil => intro s a w ρ A hle hs h; exact h.elim
  | cons o r ih =>
    intro s a w ρ A hle hs h
    unfold wpList
    unfold spOps at h
    split at h
    · rename_i hi
      have hg : o.guard = none := by
        unfold isSp at hi
        split at hi
        · rw [Bool.and_eq_true] at hi
          exact Option.isNone_iff_eq_none.1 hi.2
        · cases hi
      obtain ⟨fn, h1, h2, h3⟩ := hsp.fn
      rw [if_pos (by simp [Region.wanted, hg])]
      refine .inl (Oper.wp_mono (K := fun a' w' => ∃ s', vcOps T C n0 ops r s' K ∧ E.n0 ≤ s'.H.length ∧ ∃ ρ A, SatL E s' a' w' ρ A) ?_ (spoilOp_sound hE hsp.sp h1 h2 h3 hFs hs h))
      rintro a' w' ⟨s', q1, q2, ρ', A', q3⟩
      exact vcOps_sound hT hC hn0 hQ r s' a' w' ρ' A' q2 q3 q1
    · rcases vcG_cases hs h with ⟨hw, h⟩ | ⟨hw, h⟩
      · rw [if_pos hw]
        refine .inl (Oper.wp_mono (K := Post E s ρ w [] fun s => spOps T C n0 f CS Fs ops r s K) ?_ (vcOp_sound hT hC hn0 hle hs h))
        rintro a' w' ⟨s', h1, h2, ρ', A', h3, _⟩
        exact ih s' a' w' ρ' A' h2 h3 h1
      · rw [if_neg (by rw [hw]; simp)]
        obtain ⟨s', h1, h2, h3, h4⟩ := putK_out h
        refine ih s' _ w ρ A (by rw [h4]; exact hle) ?_ h1
        unfold SatL
        rw [h2, h3]
        exact Sat.put hs o.dst (.val _)

/-- The region that a piece of code begins with, and what follows in it. -/
def headSp : Code → Option (Nat × Array Oper × List Code)
  | .region id ops false => some (id, ops, [])
  | .seq x y => match headSp x with
    | some (id, ops, r) => some (id, ops, r ++ [y])
    | none => none
  | _ => none
theorem wpL_head : ∀ {y : Code} {ys : List Code} {id : Nat} {ops : Array Oper} {r : List Code} {Q : Exit → Act → World → Prop} {a : Act} {w : World}, headSp y = some (id, ops, r) →
    (Code.region id ops false).wpIn Fence.wide 0 P (Exit.then (wpL P (r ++ ys) Q) Q) a w → wpL P (y :: ys) Q a w := by
  intro y
  induction y with
  | region id ops d =>
    intro ys id' ops' r Q a w h hw
    cases d with
    | true => cases h
    | false =>
      cases h
      exact hw
  | seq x z ihx ihz =>
    intro ys id ops r Q a w h hw
    unfold headSp at h
    split at h
    · rename_i id' ops' r' hx
      cases h
      have := ihx (ys := z :: ys) hx (by rw [List.append_assoc] at hw; exact hw)
      exact wpIn_seq (wpIn_mono this fun e a w he => by
        cases e with
        | normal => exact he
        | _ => exact he)
    · cases h
  | _ => intro ys id ops r Q a w h; cases h

/-- Pieces that begin with a region in which memory is spoilt; then the rest, cut. -/
def vcSp (T : TT) (C : CT) (n0 : Nat) (f : FuncId) (CS : AO → Int → (Int → Prop) → Prop) (Fs : List Fam) (rs : List Nat) : List Code → LS → (Ex → LS → Prop) → Prop
  | [], _, _ => False
  | y :: ys, s, K => match headSp y with
    | none => False
    | some (_, ops, r) => ∃ (ι : Type) (mk : ι → LS) (J : ι → Prop), (forceS s fun s => spOps T C n0 f CS Fs ops ops.toList s (Form n0 mk J)) ∧ ∀ g, J g → vcCuts T C n0 rs (r ++ ys) (mk g) K
theorem vcSp_sound (hE : SpOk E) (hmix : P.follows .mixedOrders = true) (hT : TOk P T) (hC : COk P C) (hn0 : E.At n0 C) {f : FuncId} {CS : AO → Int → (Int → Prop) → Prop} (hsp : SpFn P f CS) {Fs : List Fam} (hFs : Fs.length = E.A0.n) {rs : List Nat} {K : Ex → LS → Prop} :
    ∀ (ys : List Code) (s : LS) (a : Act) (w : World) (ρ : Nat → Nat) (A : FA), E.n0 ≤ s.H.length → SatL E s a w ρ A → vcSp T C n0 f CS Fs rs ys s K → wpL P ys (Out E K) a w
  | [], _, _, _, _, _, _, _, h => h.elim
  | y :: ys, s, a, w, ρ, A, hle, hs, h => by
    dsimp only [vcSp] at h
    split at h
    · exact h.elim
    · rename_i id ops r hy
      obtain ⟨ι, mk, J, h1, h2⟩ := h
      refine wpL_head hy (wpIn_region_list (list_in (r := none) ?_ (.inl rfl) (spOps_sound hE hT hC hn0 hsp hFs (K := Form n0 mk J) (fun s' a' w' ρ' A' hK hl hs' => ?_) _ s a w ρ A hle hs (forceS_out h1))))
      · rintro ⟨_, _, h⟩
        exact h
      · obtain ⟨g, σ, hJ, hL⟩ := hK
        obtain ⟨hs1, hle1⟩ := LeS_sound hL hn0.1 hs'
        have h0 := hn0.1
        exact cuts_sound hmix hT hC hn0 rs (r ++ ys) (mk g) a' w' _ _ (by omega) hs1 (h2 g hJ)

/-- Pieces cut ahead of each of the regions; the last ones by M. -/
def vcCutsM (T : TT) (C : CT) (n0 : Nat) (K : Ex → LS → Prop) (M : List Code → LS → Prop) : List Nat → List Code → LS → Prop
  | [], ys, s => M ys s
  | r :: rs, ys, s => match sufLL r ys with
    | none => False
    | some zs => ∃ (ι : Type) (mk : ι → LS) (J : ι → Prop), (forceS s fun s => vcCutL T C n0 r (Form n0 mk J) ys s K) ∧ ∀ g, J g → vcCutsM T C n0 K M rs zs (mk g)
theorem cutsM_step {K : Ex → LS → Prop} {M : List Code → LS → Prop} {r : Nat} {rs : List Nat} {ys zs : List Code} {s : LS} (hz : sufLL r ys = some zs) {ι : Type} (mk : ι → LS) (J : ι → Prop)
    (h1 : forceS s fun s => vcCutL T C n0 r (Form n0 mk J) ys s K) (h2 : ∀ g, J g → vcCutsM T C n0 K M rs zs (mk g)) : vcCutsM T C n0 K M (r :: rs) ys s := by
  unfold vcCutsM
  rw [hz]
  exact ⟨ι, mk, J, h1, h2⟩
theorem sp_step {f : FuncId} {CS : AO → Int → (Int → Prop) → Prop} {Fs : List Fam} {rs : List Nat} {y : Code} {ys r : List Code} {id : Nat} {ops : Array Oper} {s : LS} {K : Ex → LS → Prop} (hy : headSp y = some (id, ops, r)) {ι : Type} (mk : ι → LS) (J : ι → Prop)
    (h1 : forceS s fun s => spOps T C n0 f CS Fs ops ops.toList s (Form n0 mk J)) (h2 : ∀ g, J g → vcCuts T C n0 rs (r ++ ys) (mk g) K) : vcSp T C n0 f CS Fs rs (y :: ys) s K := by
  dsimp only [vcSp]
  rw [hy]
  exact ⟨ι, mk, J, h1, h2⟩
theorem cutsM_sound (hmix : P.follows .mixedOrders = true) (hT : TOk P T) (hC : COk P C) (hn0 : E.At n0 C) {K : Ex → LS → Prop} {M : List Code → LS → Prop}
    (hM : ∀ ys s a w ρ A, E.n0 ≤ s.H.length → SatL E s a w ρ A → M ys s → wpL P ys (Out E K) a w) :
    ∀ (rs : List Nat) (ys : List Code) (s : LS) (a : Act) (w : World) (ρ : Nat → Nat) (A : FA), E.n0 ≤ s.H.length → SatL E s a w ρ A → vcCutsM T C n0 K M rs ys s → wpL P ys (Out E K) a w
  | [], ys, s, a, w, ρ, A, hle, hs, h => hM ys s a w ρ A hle hs h
  | r :: rs, ys, s, a, w, ρ, A, hle, hs, h => by
    unfold vcCutsM at h
    cases hz : sufLL r ys with
    | none => rw [hz] at h; exact h.elim
    | some zs =>
      rw [hz] at h
      obtain ⟨ι, mk, J, h1, h2⟩ := h
      refine cutL_sound hmix hT hC hn0 (fun _ _ _ h => h) ys zs s a w ρ A hz hle hs (forceS_out h1) fun s' a' w' ρ' A' hF hle' hs' => ?_
      obtain ⟨g, σ, hJ, hL⟩ := hF
      obtain ⟨hs1, hle1⟩ := LeS_sound hL hn0.1 hs'
      have h0 := hn0.1
      exact cutsM_sound hmix hT hC hn0 hM rs zs (mk g) a' w' _ _ (by omega) hs1 (h2 g hJ)

/-- A contract kept where what came in lies in memory of its own. -/
def KeepsZ (P : Program) (f : FuncId) (con : Con) : Prop :=
  ∀ (E : Entry) (args : List Value) (aargs : List AV) (Fs : List Fam) (K : AV → List AO → List Fam → Prop), SpOk E → con.C aargs [] Fs K → args.length = aargs.length →
    SatW E (listH []) Fs E.w0 E.ρ0 E.A0 → (∀ (i : Nat) a v, aargs[i]? = some a → args[i]? = some v → RepV (ctxOf E (listH []) E.w0 E.ρ0 E.A0) a v) →
    Calls P f args.toArray E.w0 (Ret E con Fs K)
theorem keepsZ_of_sp (hmix : P.follows .mixedOrders = true) (hT : TOk P T) (hC : COk P C) {g : FuncId} {CS : AO → Int → (Int → Prop) → Prop} (hsp : SpFn P g CS) {f : FuncId} {fn : Func} {c : Code} {con : Con} {ntmps : Nat} {res : List ResultVar} (hf : P.funcs[f]? = some fn) (hb : fn.body = some c) (hnt : fn.ntmps = ntmps) (hres : fn.results.toList = res)
    (rs rs2 : List Nat) (h : ∀ aargs Fs K, con.C aargs [] Fs K → vcCutsM T C 0 (fun e s => match e with
      | .exit _ => False
      | _ => s.F0 = Fs ∧ finK T 0 con res s K) (fun ys s => vcSp T C 0 g CS Fs rs2 ys s fun e s => match e with
      | .exit _ => False
      | _ => s.F0 = Fs ∧ finK T 0 con res s K) rs [c] ⟨aargs ++ List.replicate (ntmps - aargs.length) .any, [], Fs, []⟩) : KeepsZ P f con := by
  intro E args aargs Fs K hE hcon hlen hsat hargs
  have hv := h aargs Fs K hcon
  have hn0 : E.n0 = 0 := hE.n0
  have hAt : E.At 0 C := ⟨hn0, fun hx => by rw [hE.fx] at hx; cases hx⟩
  have hFs : Fs.length = E.A0.n := hsat.fl
  have hS : SatL E ⟨aargs ++ List.replicate (ntmps - aargs.length) .any, [], Fs, []⟩ { tmps := args.toArray ++ Array.replicate (fn.ntmps - args.toArray.size) undef, defers := [] } E.w0 E.ρ0 E.A0 := by
    refine { (by simpa [LS.toF] using hsat : SatW E (listH []) (Fs ++ []) E.w0 E.ρ0 E.A0) with env := fun t => ?_, tsize := by simp [hlen, hnt], defers := .nil }
    show RepV _ ((aargs ++ List.replicate (ntmps - aargs.length) AV.any).getD t .any) _
    by_cases ht : t < aargs.length
    · have h1 : aargs[t]? = some aargs[t] := List.getElem?_eq_getElem ht
      have h2 : args[t]? = some (args[t]'(by omega)) := List.getElem?_eq_getElem (by omega)
      have := hargs t _ _ h1 h2
      have e1 : (aargs ++ List.replicate (ntmps - aargs.length) AV.any).getD t .any = aargs[t] := by
        rw [List.getD, List.getElem?_append_left ht, h1]; rfl
      have e2 : (args.toArray ++ Array.replicate (fn.ntmps - args.toArray.size) undef).getD t undef = args[t]'(by omega) := by
        rw [Array.getD_eq_getD_getElem?, Array.getElem?_append_left (by simp; omega)]
        simp [h2]
      rw [e1, e2]; exact this
    · have e1 : (aargs ++ List.replicate (ntmps - aargs.length) AV.any).getD t .any = .any := by
        simp only [List.getD]
        rw [List.getElem?_append_right (by omega), List.getElem?_replicate]
        split <;> rfl
      rw [e1]; exact .any _
  exact callsIn_wide.1 (callsIn_of_wp_marks (n := 0) hf hb trivial (wpIn_mono (wpL_one (cutsM_sound hmix hT hC hAt (fun ys s a w ρ A h1 h2 h3 => vcSp_sound hE hmix hT hC hAt hsp hFs ys s a w ρ A h1 h2 h3) rs [c] _ _ E.w0 E.ρ0 E.A0 (by rw [hn0]; exact Nat.zero_le _) hS hv)) fun e a' w' hq => by
    cases e with
    | normal =>
      obtain ⟨s', ⟨h1, h2⟩, h3, ρ', A', h4⟩ := hq
      exact leaves_of (fun a'' w'' ht h5 => by
        have := finK_sound hT hn0 hres (a := a'') h5 h2
        rw [h1, ht] at this
        exact this) a'.defers a' w' rfl rfl h4
    | ret =>
      obtain ⟨s', ⟨h1, h2⟩, h3, ρ', A', h4⟩ := hq
      exact leaves_of (fun a'' w'' ht h5 => by
        have := finK_sound hT hn0 hres (a := a'') h5 h2
        rw [h1, ht] at this
        exact this) a'.defers a' w' rfl rfl h4
    | exit i => obtain ⟨s', h1, _⟩ := hq; exact h1.elim
    | _ => exact hq.elim))

/-- What is y to a reader to whom the memory of its own is like any other. -/
def ZS (x y : AV) : Prop := ∀ (c : Ctx) (v : Value), (∀ b, c.Z b → c.ok b) → RepV c x v → RepV c y v
theorem zs_refl (x : AV) : ZS x x := fun _ _ _ h => h
theorem zs_sl {sz : Nat} {l l' : List (List AV)} (hl : l'.length = l.length) (h : ∀ (i : Nat) e e', l[i]? = some e → l'[i]? = some e' → e'.length = e.length ∧ ∀ (j : Nat) a a', e[j]? = some a → e'[j]? = some a' → pureB a' = true ∧ ZS a a') : ZS (.zsl sz l) (.sl sz l') := by
  intro c v hZ hr
  cases hr with
  | zsl0 =>
    obtain rfl : l' = [] := List.eq_nil_of_length_eq_zero (by simpa using hl)
    exact .sl0 _ _ _
  | zsl _ _ b off cap vf hz hcap hl' hc hh =>
    have hget : ∀ {i : Nat} {e' : List AV}, l'[i]? = some e' → ∃ e, l[i]? = some e := by
      intro i e' he
      have := (List.getElem?_eq_some_iff.1 he).1
      exact ⟨_, List.getElem?_eq_getElem (by omega)⟩
    have hget2 : ∀ {j : Nat} {e e' : List AV} {a' : AV}, e'.length = e.length → e'[j]? = some a' → ∃ a, e[j]? = some a := by
      intro j e e' a' hl he
      have := (List.getElem?_eq_some_iff.1 he).1
      exact ⟨_, List.getElem?_eq_getElem (by omega)⟩
    have key := RepV.sl (c := c) sz l' b off cap vf (hZ b hz) (by omega) (fun i e' he' => ?_) (fun i e' j a' he' hj => ?_) (fun i e' j a' he' hj => ?_)
    · rw [hl] at key
      exact key
    · obtain ⟨e, he⟩ := hget he'
      rw [(h i e e' he he').1]
      exact hl' i e he
    · obtain ⟨e, he⟩ := hget he'
      obtain ⟨q1, q2⟩ := h i e e' he he'
      obtain ⟨a, ha⟩ := hget2 q1 hj
      exact ⟨(hc i e j a he ha).1, (q2 j a a' ha hj).1, (hc i e j a he ha).2.2⟩
    · obtain ⟨e, he⟩ := hget he'
      obtain ⟨q1, q2⟩ := h i e e' he he'
      obtain ⟨a, ha⟩ := hget2 q1 hj
      exact (q2 j a a' ha hj).2 c _ hZ (hh i e j a he ha)
theorem zs_ints (l : List Int) : ZS (.zsl 1 (icells l)) (.ints l) := fun c v hZ hr =>
  .ints l v (zs_sl (l := icells l) (l' := icells l) rfl (fun i e e' he he' => by
    rw [he] at he'
    cases he'
    refine ⟨rfl, fun j a a' ha ha' => ?_⟩
    rw [ha] at ha'
    cases ha'
    obtain ⟨x, _, rfl⟩ := icells_get.1 he
    cases j with
    | zero => simp at ha; subst ha; exact ⟨rfl, zs_refl _⟩
    | succ j => simp at ha) c v hZ hr)
theorem zs_agg {cs ds : List AV} (hl : ds.length = cs.length) (h : ∀ (i : Nat) a b, cs[i]? = some a → ds[i]? = some b → ZS a b) : ZS (.agg cs) (.agg ds) := by
  intro c v hZ hr
  cases hr with
  | agg _ vs hlen h1 hh =>
    refine .agg ds vs (by omega) h1 fun i b u hb hu => ?_
    have := (List.getElem?_eq_some_iff.1 hb).1
    have ha : cs[i]? = some (cs[i]'(by omega)) := List.getElem?_eq_getElem (by omega)
    exact h i _ b ha hb c u hZ (hh i _ u ha hu)

def ZL : List AV → List AV → Prop
  | [], [] => True
  | a :: r, b :: t => ZS a b ∧ ZL r t
  | _, _ => False
theorem zl_out : ∀ {xs ys : List AV}, ZL xs ys → ys.length = xs.length ∧ ∀ (i : Nat) x y, xs[i]? = some x → ys[i]? = some y → ZS x y
  | [], [], _ => ⟨rfl, fun i x y h => by simp at h⟩
  | a :: r, b :: t, h => by
    obtain ⟨h1, h2⟩ := h
    obtain ⟨h3, h4⟩ := zl_out h2
    refine ⟨by simp [h3], fun i x y hx hy => ?_⟩
    cases i with
    | zero => simp at hx hy; subst hx hy; exact h1
    | succ i => exact h4 i x y (by simpa using hx) (by simpa using hy)
  | [], _ :: _, h => h.elim
  | _ :: _, [], h => h.elim
/-- A function that hands nothing back that is only read: the same where its arguments lie in memory of their own. -/
theorem keeps_z {f : FuncId} {con con' : Con} (h : Keeps' P f con) (hal : con.alias = false) (hn : con'.nnew = con.nnew) (hm : con'.mode = con.mode)
    (hC : ∀ xs hs Fs K, con'.C xs hs Fs K → ∃ ys, con.C ys hs Fs K ∧ ZL xs ys) : Keeps' P f con' := by
  intro E args aargs hs Fs K hc hl hn0 hsat hrep hfx
  obtain ⟨ys, hc, hzl⟩ := hC _ _ _ _ hc
  obtain ⟨hyl, hz⟩ := zl_out hzl
  let E1 : Entry := { E with ok0 := fun b => E.ok0 b ∨ E.Z b }
  have hok : ∀ {H : Nat → AO} {w : World} {ρ : Nat → Nat} {b : Nat}, okOf E H w ρ b → okOf E1 H w ρ b := fun hb => hb.imp .inl id
  have kc : ∀ {H : Nat → AO} {w : World} {ρ : Nat → Nat} {A : FA}, KeepC (ctxOf E H w ρ A) (ctxOf E1 H w ρ A) := ⟨fun _ hb => hok hb, fun _ hb => hb, fun _ _ _ _ hb => hb, rfl, rfl, rfl⟩
  have hsat1 : SatW E1 (listH hs) Fs E1.w0 E1.ρ0 E1.A0 :=
    { os := hsat.os, tape := hsat.tape, output := hsat.output, size := hsat.size, frame := hsat.frame, okB := fun b hb => hb.elim (hsat.okB b) (hsat.zB b), zB := hsat.zB, place := hsat.place, inj := hsat.inj, stay := hsat.stay, fix := hsat.fix, grow := hsat.grow,
      pins := fun p hp => ⟨.inl (hsat.pins p hp).1, (hsat.pins p hp).2⟩, obj := fun k => (hsat.obj k).keepC kc, fl := hsat.fl, nf := hsat.nf, A0 := hsat.A0, fam := fun f fam hf => (hsat.fam f fam hf).keepC kc }
  refine (h E1 args ys hs Fs K hc (by omega) hn0 hsat1 (fun i y v hy hv => ?_) (by rw [← hm]; exact hfx)).mono ?_
  · have := (List.getElem?_eq_some_iff.1 hy).1
    have hx : aargs[i]? = some (aargs[i]'(by omega)) := List.getElem?_eq_getElem (by omega)
    exact hz i _ y hx hy _ v (fun b hb => .inl (.inr hb)) ((hrep i _ v hx hv).keepC kc)
  · rintro e w' ⟨v, r, hs', nF, ρ, A, rfl, hK, hs1, hr, h1, h2, h3⟩
    obtain ⟨⟨q1, q2⟩, rfl⟩ := h3 hal
    have kF : KeepC { ctxOf E1 (listH hs') w' ρ A with ok := fun _ => False } (ctxOf E (listH hs') w' ρ A) := ⟨fun _ hb => hb.elim, fun _ hb => hb, fun _ _ _ _ hb => hb, rfl, rfl, rfl⟩
    have kp : Vc.Keeps (ctxOf E (listH hs) E.w0 E.ρ0 E.A0) (ctxOf E (listH hs') w' ρ A) := by
      have hfr : ∀ b, b < E.w0.heap.size → (∀ i, i < E.n0 → b ≠ E.ρ0 i) → w'.heap[b]? = E.w0.heap[b]? := hs1.frame
      refine ⟨fun b hb => ?_, fun b hb => ?_, fun b hb => hb, fun b hb => hfr b (hsat.zB b hb).1 (hsat.zB b hb).2, ⟨hs1.nf, fun f hf => hs1.A0 f hf⟩⟩
      · rcases hb with hb | ⟨g1, g2, _⟩
        · exact .inl hb
        · exact absurd g2 (by omega)
      · rcases hb with hb | ⟨g1, g2, _⟩
        · exact hfr b (hsat.okB b hb).1 (hsat.okB b hb).2
        · exact absurd g2 (by omega)
    refine ⟨v, r, hs', [], ρ, A, rfl, hK, ?_, (roFree_rep q1 hr).keepC kF, h1, by rw [hn]; exact h2, fun _ => ⟨⟨q1, q2⟩, rfl⟩⟩
    exact { os := hs1.os, tape := hs1.tape, output := hs1.output, size := hs1.size, frame := hs1.frame, okB := hsat.okB, zB := hsat.zB, place := hs1.place, inj := hs1.inj, stay := hs1.stay, fix := hs1.fix, grow := hs1.grow,
            pins := fun p hp => ⟨(hsat.pins p hp).1, (hs1.pins p hp).2⟩, fl := hs1.fl, nf := hs1.nf, A0 := hs1.A0,
            obj := fun k => by
              rcases Nat.lt_or_ge k hs'.length with hk | hk
              · have e : listH hs' k = hs'[k] := by simp [listH, List.getD, hk]
                rw [e]
                have := hs1.obj k
                rw [e] at this
                exact (roFreeO_rep (q2 _ (List.getElem_mem hk)) this).keepC kF
              · have e : listH hs' k = .dead := by simp [listH, List.getD, hk]
                rw [e]; trivial
            fam := fun f fam hf => by
              rw [List.append_nil] at hf
              exact (hsat.fam f fam hf).move kp (by rw [← hsat.fl]; exact (List.getElem?_eq_some_iff.1 hf).1) }

/-- The entry of a call from outside: all that there is lies in memory of its own. -/
def outZE (W : World) (ps : List (Nat × Array Value × List AV)) : Entry := ⟨W, fun _ => False, fun b => b < W.heap.size, 0, fun i => i, fun _ => False, ⟨fun f _ => (ps.getD f (0, #[], [])).1, ps.length⟩, false, []⟩
end Go.Vc
