/-
What the proofs of single functions use: tables of contracts, states by their slots.
No conditions.
-/
import Derived.Test.YtgfpcjomgmdapaaVcPlan
import Derived.Test.YtgfpcjomgmdapaaVcTy
namespace Go.Vc
variable {P : Program}

def tabC (l : List (FuncId × Con)) : CT := ⟨fun f => (l.find? fun p => p.1 == f).map (·.2), false, fun _ => none⟩
/-- The same for a body that leaves what came in where it lies. -/
def CT.stay (C : CT) : CT := ⟨C.get, true, C.it⟩
/-- The same with an iterator. -/
def CT.iter (C : CT) (f : FuncId) (i : It) : CT := ⟨C.get, C.fx, fun g => if g = f then some i else C.it g⟩
theorem cok_iter {C : CT} {f : FuncId} {i : It} (h : COk P C) (he : ∀ args w, (callFunc f args).run P w = .ok (.enter f args) w) (hi : ∀ c0 n args cell, i c0 n args cell → cell 0 = c0 ∧ IterC P f n args cell) : COk P (C.iter f i) := by
  refine ⟨h.1, fun g it hg => ?_⟩
  simp only [CT.iter] at hg
  split at hg
  · rename_i e
    cases hg
    subst e
    exact ⟨he, hi⟩
  · exact h.2 g it hg
theorem cok_stay {C : CT} (h : COk P C) : COk P C.stay := h
theorem cok_nil : COk P (tabC []) := ⟨by intro f con h; simp [tabC] at h, by intro f it h; simp [tabC] at h⟩
theorem cok_cons {l : List (FuncId × Con)} {f : FuncId} {con : Con} {fn : Func} (h : Keeps' P f con) (hf : P.funcs[f]? = some fn) (hn : (fn.name == "runtime.NumGoroutine") = false) (hb : fn.body.isNone = false) (hl : COk P (tabC l)) : COk P (tabC ((f, con) :: l)) := by
  refine ⟨?_, by intro f it h; simp [tabC] at h⟩
  intro g con' hg
  unfold tabC at hg
  simp only at hg
  rw [List.find?_cons] at hg
  split at hg
  · rename_i he
    have he : f = g := by simpa using he
    subst he
    simp only [Option.map_some, Option.some.injEq] at hg
    subst hg
    exact ⟨h, fn, hf, hn, hb⟩
  · exact hl.1 g con' hg

/-- The slots of a frame: those of the list hold what it says. -/
def mkE : Nat → Nat → List (Nat × AV) → List AV
  | _, 0, _ => []
  | i, n + 1, [] => .any :: mkE (i + 1) n []
  | i, n + 1, (t, v) :: r => if t = i then v :: mkE (i + 1) n r else .any :: mkE (i + 1) n ((t, v) :: r)
abbrev mkS (n : Nat) (l : List (Nat × AV)) (H : List AO) (F : List Fam) : LS := ⟨mkE 0 n l, H, F, []⟩

/-- A loop: the invariant, the measure, the state at its head. -/
theorem loop_in {n0 : Nat} {V : LS → (Ex → LS → Prop) → Prop} {s : LS} {K : Ex → LS → Prop} {ι : Type} (mk : ι → LS) (J : ι → Prop) (m : ι → Nat) (g : ι) (σ : List Nat) (h0 : J g) (hL : LeS n0 σ (mk g) s)
    (h : ∀ g, J g → forceS (mk g) fun s => V s fun e s' => match e with
      | .normal => ∃ g' σ, J g' ∧ m g' < m g ∧ LeS n0 σ (mk g') s'
      | e => K e s') : Loop n0 V s K := ⟨ι, mk, J, m, ⟨g, σ, h0, hL⟩, h⟩

/-- A nil slice where numbers are looked for. -/
def nilC : AV → AV
  | .val (.slice none 0 0) => .ints []
  | a => a
def nilA : AV → AV
  | .agg cs => .agg (cs.map nilC)
  | a => nilC a
theorem nilC_rep {c : Ctx} {a : AV} {v : Value} (h : RepV c a v) : RepV c (nilC a) v := by
  unfold nilC
  split
  · cases h; exact .ints [] _ (.sl0 1 _ _)
  · exact h
theorem nilA_rep {c : Ctx} {a : AV} {v : Value} (h : RepV c a v) : RepV c (nilA a) v := by
  unfold nilA
  split
  · rename_i cs
    cases h with
    | agg _ vs hl h1 h =>
      refine .agg _ vs (by simpa using hl) h1 fun i a v ha hv => ?_
      rw [List.getElem?_map] at ha
      obtain ⟨a0, ha0, rfl⟩ := Option.map_eq_some_iff.1 ha
      exact nilC_rep (h i a0 v ha0 hv)
  · exact nilC_rep h
/-- The same contract, nil slices among the arguments. -/
def Con.nil (con : Con) : Con := ⟨con.nnew, con.mode, con.alias, fun xs hs Fs K => con.C (xs.map nilA) hs Fs K⟩
theorem keeps_nil {f : FuncId} {con : Con} (h : Keeps' P f con) : Keeps' P f con.nil := by
  intro E args aargs hs Fs K hc hl hn hsat hr hfx
  refine h E args (aargs.map nilA) hs Fs K hc (by simpa using hl) hn hsat (fun i a v ha hv => ?_) hfx
  rw [List.getElem?_map] at ha
  obtain ⟨a0, ha0, rfl⟩ := Option.map_eq_some_iff.1 ha
  exact nilA_rep (hr i a0 v ha0 hv)
end Go.Vc
