/-
What the rows' condition on the three error variables gives a proof, and a start that meets it; named variables read afterwards as before.
No conditions.
-/
import Derived.Test.YtkabnbjlglippaaGreatDoorRows
import Derived.Test.YtkabnbjlglippaaGreatDoorTie
import Derived.Test.YtkabnbjlglippaaGreatDoorCards
import Derived.Test.YtkabnbjlglippaaGreatDoorWjE
import Derived.Test.YtkabnbjlglippaaGreatDoorVcMG
import Derived.Stop.LaidErr
import Derived.JoinedOf
import Derived.JoinedAt
import Derived.Lib.SmallJoins
import Derived.LaidMore
import Derived.LaidSub
import Derived.Lay
import Derived.SevenTiedAt
import Derived.ChangeVars
namespace Go.Proofs.YtkabnbjlglippaaGreatDoor
open Go Go.Vc Go.ChangeShapes Go.WideShapes Go.ChangeAt Go.RowKit Go.Joins
open Go.WideElems
set_option maxRecDepth 100000
section
variable {P : Program} {H : Type} {enc : TypeId × Value → H}
theorem trodVars_stays (hl : laidOutB P = true) {W W' : World} (hb : Below W.heap.size W W') {sp : Nat → Bool} : ∀ {ns : List String} {gs : List (DataW H)} {ps : List MemPlace},
    (∀ n ∈ ns, ∀ g t, P.globalNamed n = some g → (P.globals[g]?).map (·.type) = some t → P.readableRec t = true ∧ t < P.types.size) →
    DataW.TrodVars enc P W (fun _ => true) ns gs ps → (∀ x ∈ ps, x.block < W.heap.size) → (∀ x ∈ ps, sp x.block = true) → DataW.TrodVars enc P W' sp ns gs ps
  | [], [], _, _, h, _, _ => h
  | [], _ :: _, _, _, h, _, _ => h
  | _ :: _, [], _, _, h, _, _ => h
  | n :: ns, d :: gs, _, ht, h, hlt, hsp => by
    obtain ⟨g, t, cs, fuel, p, q, h1, h2, h3, h4, h5, rfl⟩ := h
    obtain ⟨hr, hrow⟩ := ht n (by simp) g t h1 h2
    refine ⟨g, t, cs, fuel, p, q, h1, h2, ?_, DataW.trod_stays (x := (d, p)) (kids_book hl hr) (book_sized hr) (fun h => by cases h) ⟨hrow, book_self t⟩ h4 (fun x hx => hb.same (hlt x (by simp [hx]))) (fun x hx => hsp x (by simp [hx])),
      trodVars_stays hl hb (fun m hm => ht m (by simp [hm])) h5 (fun x hx => hlt x (by simp [hx])) (fun x hx => hsp x (by simp [hx])), rfl⟩
    unfold World.var? at h3 ⊢
    rw [h1] at h3 ⊢
    simp only [Option.bind_some] at h3 ⊢
    by_cases hg : g < W.heap.size
    · rw [hb.block g hg]
      exact h3
    · rw [Array.getElem?_eq_none (by omega)] at h3
      cases h3
/-- What a law's row asks behind the call: true; arguments and named variables as before. -/
theorem post_lawV {f : Func} {s : ChangeSpec} {apart fresh handsOn again : Bool} {W W' : World} {args : Array Value} {ds gs : List (DataW H)} {before : List MemPlace} {t : TypeId} (hl : laidOutB P = true)
    (ht : ∀ t ∈ f.params.toList, P.readableRec t = true ∧ t < P.types.size) (hrt : f.resultTypes = #[t]) (hu : P.underlying t = some .bool) (hvt : ∀ n ∈ s.vars, ∀ g t, P.globalNamed n = some g → (P.globals[g]?).map (·.type) = some t → P.readableRec t = true ∧ t < P.types.size)
    (hres : (s.fn H (ds ++ gs)).results = [.lit (.bool true)]) (hargs : (s.fn H (ds ++ gs)).args = ds) (hvars : (s.fn H (ds ++ gs)).vars = gs)
    (hW : DataW.Whole enc P f.params.toList s.vars apart W args.toList ds gs before) (hb : Below W.heap.size W W') : s.post enc P f apart fresh handsOn again W args (.bool true) W' := by
  have hlt : ∀ p ∈ before, p.block < W.heap.size := hW.lt
  have hW' := hW
  obtain ⟨pa, pv, hA, hV, hbe, hz, hn⟩ := hW
  have hbe' : before = pa ++ pv := hbe
  have hA' : ∀ sp : Nat → Bool, (∀ p ∈ before, sp p.block = true) → DataW.TrodAll enc P W' 0 sp true f.params.toList args.toList (s.fn H (ds ++ gs)).args pa := fun sp hsp => by
    rw [hargs]
    exact trodAll_stays hl hb ht hA (fun x hx => hlt x (by rw [hbe']; exact List.mem_append_left _ hx)) (fun x hx => hsp x (by rw [hbe']; exact List.mem_append_left _ hx))
  have hR : ∀ (b : Nat) (sp : Nat → Bool) (hd : Bool), DataW.TrodAll enc P W' b sp hd f.resultTypes.toList (Value.resultList f.resultTypes.size (.bool true)) (s.fn H (ds ++ gs)).results [] := fun b sp hd => by
    rw [hrt, hres]
    exact trodAll_mk1 (shut_bool hu true)
  have hVs : ∀ sp : Nat → Bool, (∀ p ∈ before, sp p.block = true) → DataW.TrodVars enc P W' sp s.vars (s.fn H (ds ++ gs)).vars pv := fun sp hsp => by
    rw [hvars]
    exact trodVars_stays hl hb hvt hV (fun x hx => hlt x (by rw [hbe']; exact List.mem_append_right _ hx)) (fun x hx => hsp x (by rw [hbe']; exact List.mem_append_right _ hx))
  have hold : ∀ p ∈ before, (fun b => decide (b < W.heap.size)) p.block = true := fun p hp => by simpa using hlt p hp
  refine ⟨ds, gs, before, [], pa, pv, hW', hR _ _ _, hA' _ hold, hVs _ hold, World.keptBut_mono (fun p hp => ⟨hp, ?_⟩) (hb.frame (· ∈ before)), fun _ => ?_⟩
  · rw [hbe'] at hp
    exact .inr (by simpa using hp)
  · refine ⟨?_, _, _, ([] ++ pa) ++ pv, ⟨[] ++ pa, pv, trodAll_append (hA' _ fun _ _ => rfl) (hR _ _ _), hVs _ fun _ _ => rfl, rfl, ?_, ?_⟩, ?_⟩
    · intro j t' r hj hr
      rw [hrt] at hj hr
      cases j with
      | zero =>
        simp [Value.resultList] at hj hr
        subst hj hr
        simp [Value.okWide, hu, Cell.okWide, Cell.ok]
      | succ j => simp at hj
    · intro b off hp
      have hin : MemPlace.cell b off ∈ before := by rw [hbe']; simpa using hp
      rw [hb.frozen (hlt _ hin)]
      exact hz b off hin
    · intro ha
      have := hn ha
      rw [hbe'] at this
      simpa using this
    · intro p hp _
      rw [hbe']
      simpa using hp
end
section
variable {P : Program}
/-- The entry of a call from outside: all that there is may be read, nothing is owned, some blocks are known. -/
def pinVA (ps : List (Nat × Array Value × List AV)) : FA := ⟨fun f _ => (ps.getD f (0, #[], [])).1, ps.length⟩
def pinVE (W : World) (ps : List (Nat × Array Value × List AV)) : Entry := ⟨W, fun b => b < W.heap.size, fun b => b < W.heap.size, 0, fun i => i, fun _ => False, pinVA ps, false, []⟩
abbrev pinVX (W : World) (ps : List (Nat × Array Value × List AV)) : Ctx := ctxOf (pinVE W ps) (listH []) (pinVE W ps).w0 (pinVE W ps).ρ0 (pinVE W ps).A0
def pinVF (ps : List (Nat × Array Value × List AV)) : List Fam := ps.map fun p => ⟨some p.1, [p.2.2]⟩
theorem pinV_sat (W : World) {ps : List (Nat × Array Value × List AV)} (hg : ∀ p ∈ ps, (∃ T fr, W.heap[p.1]? = some (.cells p.2.1 T fr)) ∧ p.2.1.size = p.2.2.length ∧ ∀ (j : Nat) a v, p.2.2[j]? = some a → p.2.1[j]? = some v → v.oneCell' = true ∧ pureB a = true ∧ ∀ c, RepV c a v) :
    SatW (pinVE W ps) (listH []) (pinVF ps) W (pinVE W ps).ρ0 (pinVE W ps).A0 := by
  have hd : ∀ k, listH [] k = .dead := fun k => rfl
  refine { os := rfl, tape := rfl, output := rfl, size := Nat.le_refl _, frame := fun _ _ _ => rfl, okB := fun b hb => ⟨hb, fun i hi => absurd hi (by simp [pinVE])⟩, zB := fun b hb => ⟨hb, fun i hi => absurd hi (by simp [pinVE])⟩,
           place := fun k hk => absurd (hd k) hk, inj := fun k _ hk => absurd (hd k) hk, stay := fun k cs hk => absurd hk (by simp [pinVE]), fix := fun h => (by cases h), grow := fun h => (by cases h), pins := fun p hp => by simp [pinVE] at hp, obj := fun k => by rw [hd k]; trivial, fl := by simp [pinVF, pinVE, pinVA], nf := Nat.le_refl _, A0 := fun _ _ => rfl, fam := fun f fam hf => ?_ }
  unfold pinVF at hf
  rw [List.getElem?_map] at hf
  obtain ⟨⟨g, vs, avs⟩, hp, rfl⟩ := Option.map_eq_some_iff.1 hf
  obtain ⟨⟨T, fr, h0⟩, hsz, h1⟩ := hg _ (List.mem_of_getElem? hp)
  dsimp only at h0 hsz h1
  have hlt : g < W.heap.size := (Array.getElem?_eq_some_iff.1 h0).1
  have hat : ∀ i, (pinVE W ps).A0.at_ f i = g := fun i => by
    show (ps.getD f (0, #[], [])).1 = g
    rw [List.getD_eq_getElem?_getD, hp]
    rfl
  refine ⟨fun i cs hi => ?_, fun i j hi hj _ => by simp at hi hj; omega, fun q hq => ?_, fun hp => (by cases hp)⟩
  · cases i with
    | succ i => simp at hi
    | zero =>
      simp only [List.getElem?_cons_zero, Option.some.injEq] at hi
      subst hi
      refine ⟨.inl (.inl (by show (pinVE W ps).A0.at_ f 0 < W.heap.size; rw [hat]; exact hlt)), fun j => vs.getD j undef, fun j a hj => ?_⟩
      have hjl : j < vs.size := by rw [hsz]; exact (List.getElem?_eq_some_iff.1 hj).1
      have hv : vs[j]? = some vs[j] := Array.getElem?_eq_getElem hjl
      have e : vs.getD j undef = vs[j] := by simp [Array.getD, hjl]
      obtain ⟨q1, q2, q3⟩ := h1 j a _ hj hv
      refine ⟨?_, q2, ?_, ?_⟩
      rotate_left
      · show (vs.getD j undef).oneCell' = true
        rw [e]; exact q1
      · show RepV _ _ (vs.getD j undef)
        rw [e]; exact q3 _
      show W.cell? ⟨(pinVE W ps).A0.at_ f 0, j, none⟩ = _
      rw [hat, cell_of_row W _ _ vs T fr h0]
      show vs[j]? = some (vs.getD j undef)
      rw [e, hv]
  · have hq : g = q := Option.some.inj hq
    subst hq
    refine ⟨hat 0, fun cs hcs => ?_⟩
    simp only [List.getElem?_cons_zero, Option.some.injEq] at hcs
    subst hcs
    exact ⟨vs, T, fr, h0, hsz⟩
theorem out_pinV {W : World} {ps : List (Nat × Array Value × List AV)} {a : AV} {v : Value} (h : RepV (outC W) a v) (hp : pureA a = true) : RepV (pinVX W ps) a v :=
  RepV.pure_move (c := outC W) (c' := pinVX W ps) ⟨fun _ hb => hb, fun _ _ => rfl, fun _ hb => hb, fun _ _ => rfl, ⟨Nat.zero_le _, fun f hf => absurd hf (Nat.not_lt_zero f)⟩⟩ h hp
theorem calls_law_pinV {f : FuncId} {con : Con} (hk : Keeps' P f con) {W : World} {ps : List (Nat × Array Value × List AV)} (hg : ∀ p ∈ ps, (∃ T fr, W.heap[p.1]? = some (.cells p.2.1 T fr)) ∧ p.2.1.size = p.2.2.length ∧ ∀ (j : Nat) a v, p.2.2[j]? = some a → p.2.1[j]? = some v → v.oneCell' = true ∧ pureB a = true ∧ ∀ c, RepV c a v)
    {args : List Value} {aargs : List AV} {b : Bool} (hargs : RepA (outC W) aargs args) (hp : ∀ a ∈ aargs, pureA a = true) (hc : con.C aargs [] (pinVF ps) fun r _ _ => r = B b) :
    Calls P f args.toArray W fun e W' => e = .returned (.bool b) ∧ Below W.heap.size W W' := by
  refine (hk (pinVE W ps) args aargs [] (pinVF ps) _ hc hargs.1 rfl (pinV_sat W hg) (fun i a v ha hv => out_pinV (hargs.2 i a v ha hv) (hp a (List.mem_of_getElem? ha))) (fun h => by cases h)).mono ?_
  rintro e W' ⟨v, r, hs, nF, ρ, A, rfl, rfl, hsat, hr, _⟩
  have hv : v = .bool b := by cases hr; rfl
  subst hv
  exact ⟨rfl, hsat.os, hsat.tape, hsat.output, hsat.size, fun k hk' => hsat.frame k hk' fun i hi => absurd hi (by simp [pinVE])⟩

end
theorem Tryz.own : ownKnob Tryz.prog.godebug = none := by kernel_rfl
theorem Tryz.laid : laidOutB Tryz.prog = true := by kernel_rfl
def errL : List (String × DataW Unit) := [("loop.example/dagconsensus/impl.errInvalid", Rows.laid_loop_example_dagconsensus_impl_errInvalid), ("loop.example/dagconsensus/impl.errNoWave", Rows.laid_loop_example_dagconsensus_impl_errNoWave), ("loop.example/dagconsensus/impl.errNoVertex", Rows.laid_loop_example_dagconsensus_impl_errNoVertex)]
theorem g_e0 : Tryz.prog.globalNamed "loop.example/dagconsensus/impl.errInvalid" = some 0 := by kernel_rfl
theorem g_e1 : Tryz.prog.globalNamed "loop.example/dagconsensus/impl.errNoWave" = some 1 := by kernel_rfl
theorem g_e2 : Tryz.prog.globalNamed "loop.example/dagconsensus/impl.errNoVertex" = some 2 := by kernel_rfl
theorem t_e0 : (Tryz.prog.globals[0]?).map (·.type) = some 66 := by kernel_rfl
theorem t_e1 : (Tryz.prog.globals[1]?).map (·.type) = some 66 := by kernel_rfl
theorem t_e2 : (Tryz.prog.globals[2]?).map (·.type) = some 66 := by kernel_rfl
theorem es_star : "*" ++ "errors.errorString" = "*errors.errorString" := by decide
theorem es_row (u : TypeId) (h : Tryz.prog.typeName? 3 u = some "*errors.errorString") : u = 158 :=
  typeName_ptr_named (nm := "errors.errorString") (by rw [es_star]; kernel_rfl) (by kernel_rfl) (by decide) u (by rw [es_star]; exact h)
theorem es_c1 : Tryz.prog.cellsOf 183 = 1 := by kernel_rfl
theorem es_c2 : Tryz.prog.cellsOf 9 = 1 := by kernel_rfl
theorem var_block {W : World} {n : String} {g : Nat} {cs : Array Value} (hg : Tryz.prog.globalNamed n = some g) (h : W.var? Tryz.prog n = some cs) : ∃ T fr, W.heap[g]? = some (.cells cs T fr) := by
  unfold World.var? at h
  rw [hg] at h
  simp only [Option.bind_some] at h
  generalize W.heap[g]? = o at h ⊢
  match o, h with
  | some (.cells vs T fr), h =>
    simp only [Option.some.injEq] at h
    exact ⟨T, fr, by rw [h]⟩
theorem errs_of_laid {W : World} (h : laidMetH Tryz.prog errL W) : ∃ a0 a1 a2 : Addr, W.var? Tryz.prog "loop.example/dagconsensus/impl.errInvalid" = some #[.iface 158 (.pointer (some a0))] ∧
    W.var? Tryz.prog "loop.example/dagconsensus/impl.errNoWave" = some #[.iface 158 (.pointer (some a1))] ∧ W.var? Tryz.prog "loop.example/dagconsensus/impl.errNoVertex" = some #[.iface 158 (.pointer (some a2))] := by
  rw [MakeChecks.laidMetH_plain _ _ _ (by kernel_rfl)] at h
  have h : laidMet Tryz.prog errL W := h
  obtain ⟨a0, _, e0, _⟩ := laid_sentinel h g_e0 t_e0 Tryz.underlying66 es_row Tryz.underlying158 Tryz.underlying183 rfl rfl Tryz.underlying9 es_c1 es_c2
  obtain ⟨a1, _, e1, _⟩ := laid_sentinel h.tail g_e1 t_e1 Tryz.underlying66 es_row Tryz.underlying158 Tryz.underlying183 rfl rfl Tryz.underlying9 es_c1 es_c2
  obtain ⟨a2, _, e2, _⟩ := laid_sentinel h.tail.tail g_e2 t_e2 Tryz.underlying66 es_row Tryz.underlying158 Tryz.underlying183 rfl rfl Tryz.underlying9 es_c1 es_c2
  exact ⟨a0, a1, a2, e0, e1, e2⟩
def pinsE (a0 a1 a2 : Addr) : List (Nat × Array Value × List AV) := [(0, #[.iface 158 (.pointer (some a0))], [errA a0]), (1, #[.iface 158 (.pointer (some a1))], [errA a1]), (2, #[.iface 158 (.pointer (some a2))], [errA a2])]
theorem pinsE_has (a0 a1 a2 : Addr) : hasErr (pinVF (pinsE a0 a1 a2)) a0 a1 a2 := ⟨rfl, rfl, rfl⟩
theorem errA_one {a : Addr} {j : Nat} {x : AV} {v : Value} (hx : [errA a][j]? = some x) (hv : (#[Value.iface 158 (.pointer (some a))] : Array Value)[j]? = some v) : v.oneCell' = true ∧ pureB x = true ∧ ∀ c, RepV c x v := by
  cases j with
  | succ j => simp at hx
  | zero =>
    simp at hx hv
    subst hx hv
    exact ⟨rfl, rfl, fun c => .iface _ _ _ rfl (.val _)⟩
/-- A law's call where the error variables are as the row lists them. -/
theorem calls_laidE {f : FuncId} {con : Con} (hk : Keeps' Tryz.prog f con) {W : World} (hL : laidMetH Tryz.prog errL W) {args : List Value} {aargs : List AV} {b : Bool} (hargs : RepA (outC W) aargs args) (hp : ∀ a ∈ aargs, pureA a = true)
    (hc : ∀ Fs, (∃ p0 p1 p2, hasErr Fs p0 p1 p2) → con.C aargs [] Fs fun r _ _ => r = B b) :
    Calls Tryz.prog f args.toArray W fun e W' => e = .returned (.bool b) ∧ Below W.heap.size W W' := by
  obtain ⟨a0, a1, a2, e0, e1, e2⟩ := errs_of_laid hL
  refine calls_law_pinV hk (ps := pinsE a0 a1 a2) (fun p hp => ?_) hargs hp (hc _ ⟨_, _, _, pinsE_has a0 a1 a2⟩)
  unfold pinsE at hp
  simp only [List.mem_cons, List.not_mem_nil, or_false] at hp
  rcases hp with rfl | rfl | rfl
  · exact ⟨var_block g_e0 e0, rfl, fun j a v ha hv => errA_one ha hv⟩
  · exact ⟨var_block g_e1 e1, rfl, fun j a v ha hv => errA_one ha hv⟩
  · exact ⟨var_block g_e2 e2, rfl, fun j a v ha hv => errA_one ha hv⟩
theorem laid_startE (os : Os) (args : Array Value) : laidMetH Tryz.prog errL ((World.laidAll Tryz.prog os errL).forCall (fun _ _ => 0) ⟨#[], args, []⟩).memory := by
  rw [MakeChecks.laidMetH_plain _ _ _ (by kernel_rfl)]
  exact laidMet_laidAll _ (by kernel_rfl) (by kernel_rfl)
theorem errs_vars : ∀ n ∈ ["loop.example/dagconsensus/impl.errInvalid", "loop.example/dagconsensus/impl.errNoWave", "loop.example/dagconsensus/impl.errNoVertex"], ∀ g t, Tryz.prog.globalNamed n = some g → (Tryz.prog.globals[g]?).map (·.type) = some t → Tryz.prog.readableRec t = true ∧ t < Tryz.prog.types.size := by
  have hr : Tryz.prog.readableRec 66 = true ∧ 66 < Tryz.prog.types.size := of_decide_eq_true (by kernel_rfl)
  intro n hn g t h1 h2
  simp only [List.mem_cons, List.not_mem_nil, or_false] at hn
  rcases hn with rfl | rfl | rfl
  · rw [g_e0] at h1; cases h1; rw [t_e0] at h2; cases h2; exact hr
  · rw [g_e1] at h1; cases h1; rw [t_e1] at h2; cases h2; exact hr
  · rw [g_e2] at h1; cases h1; rw [t_e2] at h2; cases h2; exact hr
theorem vars_three {P : Program} {H : Type} {enc : TypeId × Value → H} {w : World} {sp : Nat → Bool} {n0 n1 n2 : String} {gs : List (DataW H)} {ps : List MemPlace} (h : DataW.TrodVars enc P w sp [n0, n1, n2] gs ps) : ∃ d0 d1 d2, gs = [d0, d1, d2] := by
  rcases gs with _ | ⟨d0, _ | ⟨d1, _ | ⟨d2, _ | ⟨d3, t⟩⟩⟩⟩
  · exact h.elim
  · obtain ⟨_, _, _, _, _, _, _, _, _, _, h, _⟩ := h; exact h.elim
  · obtain ⟨_, _, _, _, _, _, _, _, _, _, h, _⟩ := h; obtain ⟨_, _, _, _, _, _, _, _, _, _, h, _⟩ := h; exact h.elim
  · exact ⟨d0, d1, d2, rfl⟩
  · obtain ⟨_, _, _, _, _, _, _, _, _, _, h, _⟩ := h; obtain ⟨_, _, _, _, _, _, _, _, _, _, h, _⟩ := h; obtain ⟨_, _, _, _, _, _, _, _, _, _, h, _⟩ := h; exact h.elim
end Go.Proofs.YtkabnbjlglippaaGreatDoor
