/-
A law's call where all that came in lies in memory of its own and the tables are as the row lists them; epochs and links as such memory.
No conditions.
-/
import Derived.Test.YtdljacpmoaeepaaDoorTbA
import Derived.Test.YtdljacpmoaeepaaDoorOpL
import Derived.Test.YtdljacpmoaeepaaDoorZlA
namespace Go.Proofs.YtdljacpmoaeepaaDoor
open Go Go.Vc Go.ChangeShapes Go.WideShapes Go.ChangeAt Go.RowKit Go.Joins
set_option maxRecDepth 100000
def pinZF (ps : List (Nat × Array Value × List AV)) : List Fam := ps.map fun p => ⟨some p.1, [p.2.2]⟩
abbrev zX (W : World) (ps : List (Nat × Array Value × List AV)) : Ctx := ctxOf (outZE W ps) (listH []) (outZE W ps).w0 (outZE W ps).ρ0 (outZE W ps).A0
theorem out_ok {W : World} {b : Nat} (h : (outC W).ok b) : b < W.heap.size := by
  rcases h with h | h
  · exact h
  · exact h.2.1
theorem z_ints {W : World} (ps : List (Nat × Array Value × List AV)) {l : List Int} {v : Value} (h : RepV (outC W) (.ints l) v) : RepV (zX W ps) (.zsl 1 (icells l)) v := by
  cases h with
  | ints _ _ h =>
    have hz : ∀ (i : Nat) e (j : Nat) a, (icells l)[i]? = some e → e[j]? = some a → ∃ n, a = I n := by
      intro i e j a hi hj
      obtain ⟨x, _, rfl⟩ := icells_get.1 hi
      cases j with
      | zero => simp at hj; exact ⟨x, hj.symm⟩
      | succ j => simp at hj
    revert h hz
    generalize icells l = cs
    intro h hz
    cases h with
    | sl0 sz a cap => exact .zsl0 _ _ _
    | sl _ _ b off cap vf hok hcap hl hc hh =>
      refine .zsl 1 cs b off cap vf (out_ok hok) hcap hl (fun i e j a hi hj => ?_) (fun i e j a hi hj => ?_)
      · obtain ⟨n, rfl⟩ := hz i e j a hi hj
        obtain ⟨q1, _, q3⟩ := hc i e j _ hi hj
        exact ⟨q1, rfl, q3⟩
      · obtain ⟨n, rfl⟩ := hz i e j a hi hj
        have := hh i e j _ hi hj
        revert this
        generalize vf i j = u
        intro h
        cases h
        exact .val _
theorem z_int {W : World} (ps : List (Nat × Array Value × List AV)) {n : Int} {v : Value} (h : RepV (outC W) (I n) v) : RepV (zX W ps) (I n) v := by
  cases h
  exact .val _
theorem z_epoch {W : World} (ps : List (Nat × Array Value × List AV)) {n : Int} {c k : List Int} {r : Int} {v : Value} (h : RepV (outC W) (.agg [I n, .ints c, .ints k, I r]) v) : RepV (zX W ps) (.agg [I n, .zsl 1 (icells c), .zsl 1 (icells k), I r]) v := by
  cases h with
  | agg _ vs hl h1 hh =>
    refine .agg _ vs hl h1 fun i a u ha hu => ?_
    match i, ha with
    | 0, ha => cases ha; exact z_int ps (hh 0 _ u rfl hu)
    | 1, ha => cases ha; exact z_ints ps (hh 1 _ u rfl hu)
    | 2, ha => cases ha; exact z_ints ps (hh 2 _ u rfl hu)
    | 3, ha => cases ha; exact z_int ps (hh 3 _ u rfl hu)
    | i + 4, ha => simp at ha
theorem z_links {W : World} (ps : List (Nat × Array Value × List AV)) {ls : List LkD} {v : Value} (h : RepV (outC W) (.sl 7 (ls.map LkD.row)) v) : RepV (zX W ps) (.zsl 7 (ls.map LkD.rowZ)) v := by
  have hz : ∀ (i : Nat) e, (ls.map LkD.rowZ)[i]? = some e → ∃ x : LkD, e = x.rowZ ∧ (ls.map LkD.row)[i]? = some x.row := by
    intro i e hi
    obtain ⟨x, hx, rfl⟩ := lkz_at hi
    exact ⟨x, rfl, by rw [List.getElem?_map, hx]; rfl⟩
  have hlen : (ls.map LkD.rowZ).length = (ls.map LkD.row).length := by simp
  revert h hz hlen
  generalize ls.map LkD.rowZ = ds
  generalize ls.map LkD.row = cs
  intro h hz hlen
  cases h with
  | sl0 sz a cap =>
    obtain rfl : ds = [] := List.eq_nil_of_length_eq_zero (by simpa using hlen)
    exact .zsl0 _ _ _
  | sl _ _ b off cap vf hok hcap hl hc hh =>
    rw [← hlen]
    refine .zsl 7 ds b off cap vf (out_ok hok) (by omega) (fun i e hi => ?_) (fun i e j a hi hj => ?_) (fun i e j a hi hj => ?_)
    · obtain ⟨x, rfl, _⟩ := hz i e hi
      rfl
    · obtain ⟨x, rfl, hx⟩ := hz i e hi
      have key : ∀ a', x.row[j]? = some a' → zB a = true → (ctxOf (outZE W ps) (listH []) (outZE W ps).w0 (outZE W ps).ρ0 (outZE W ps).A0).w.cell? ⟨b, off + i * 7 + j, none⟩ = some (vf i j) ∧ zB a = true ∧ (vf i j).oneCell' = true := fun a' ha' hza => by
        obtain ⟨q1, _, q3⟩ := hc i _ j a' hx ha'
        exact ⟨q1, hza, q3⟩
      match j, hj with
      | 0, hj => cases hj; exact key _ rfl rfl
      | 1, hj => cases hj; exact key _ rfl rfl
      | 2, hj => cases hj; exact key _ rfl rfl
      | 3, hj => cases hj; exact key _ rfl rfl
      | 4, hj => cases hj; exact key _ rfl rfl
      | 5, hj => cases hj; exact key _ rfl rfl
      | 6, hj => cases hj; exact key _ rfl rfl
      | j + 7, hj => simp [LkD.rowZ] at hj
    · obtain ⟨x, rfl, hx⟩ := hz i e hi
      match j, hj with
      | 0, hj => cases hj; exact z_int ps (hh i _ 0 _ hx rfl)
      | 1, hj => cases hj; exact z_ints ps (hh i _ 1 _ hx rfl)
      | 2, hj => cases hj; exact z_ints ps (hh i _ 2 _ hx rfl)
      | 3, hj => cases hj; exact z_int ps (hh i _ 3 _ hx rfl)
      | 4, hj => cases hj; exact z_int ps (hh i _ 4 _ hx rfl)
      | 5, hj => cases hj; exact z_ints ps (hh i _ 5 _ hx rfl)
      | 6, hj => cases hj; exact z_int ps (hh i _ 6 _ hx rfl)
      | j + 7, hj => simp [LkD.rowZ] at hj
section
variable {P : Program}
theorem pinZ_sat (W : World) {ps : List (Nat × Array Value × List AV)} (hg : ∀ p ∈ ps, (∃ T fr, W.heap[p.1]? = some (.cells p.2.1 T fr)) ∧ p.2.1.size = p.2.2.length ∧ ∀ (j : Nat) a v, p.2.2[j]? = some a → p.2.1[j]? = some v → v.oneCell' = true ∧ pureB a = true ∧ ∀ c, RepV c a v) :
    SatW (outZE W ps) (listH []) (pinZF ps) W (outZE W ps).ρ0 (outZE W ps).A0 := by
  have hd : ∀ k, listH [] k = .dead := fun k => rfl
  refine { os := rfl, tape := rfl, output := rfl, size := Nat.le_refl _, frame := fun _ _ _ => rfl, okB := fun b hb => hb.elim, zB := fun b hb => ⟨hb, fun i hi => absurd hi (by simp [outZE])⟩,
           place := fun k hk => absurd (hd k) hk, inj := fun k _ hk => absurd (hd k) hk, stay := fun k cs hk => absurd hk (by simp [outZE]), fix := fun h => (by cases h), grow := fun h => (by cases h), pins := fun p hp => by simp [outZE] at hp, obj := fun k => by rw [hd k]; trivial, fl := by simp [pinZF, outZE], nf := Nat.le_refl _, A0 := fun _ _ => rfl, fam := fun f fam hf => ?_ }
  unfold pinZF at hf
  rw [List.getElem?_map] at hf
  obtain ⟨⟨g, vs, avs⟩, hp, rfl⟩ := Option.map_eq_some_iff.1 hf
  obtain ⟨⟨T, fr, h0⟩, hsz, h1⟩ := hg _ (List.mem_of_getElem? hp)
  dsimp only at h0 hsz h1
  have hlt : g < W.heap.size := (Array.getElem?_eq_some_iff.1 h0).1
  have hat : ∀ i, (outZE W ps).A0.at_ f i = g := fun i => by
    show (ps.getD f (0, #[], [])).1 = g
    rw [List.getD_eq_getElem?_getD, hp]
    rfl
  refine ⟨fun i cs hi => ?_, fun i j hi hj _ => by simp at hi hj; omega, fun q hq => ?_, fun hp => (by cases hp)⟩
  · cases i with
    | succ i => simp at hi
    | zero =>
      simp only [List.getElem?_cons_zero, Option.some.injEq] at hi
      subst hi
      refine ⟨.inr (by show (outZE W ps).A0.at_ f 0 < W.heap.size; rw [hat]; exact hlt), fun j => vs.getD j undef, fun j a hj => ?_⟩
      have hjl : j < vs.size := by rw [hsz]; exact (List.getElem?_eq_some_iff.1 hj).1
      have hv : vs[j]? = some vs[j] := Array.getElem?_eq_getElem hjl
      have e : vs.getD j undef = vs[j] := by simp [Array.getD, hjl]
      obtain ⟨q1, q2, q3⟩ := h1 j a _ hj hv
      refine ⟨?_, q2, ?_, ?_⟩
      rotate_left
      · show (vs.getD j undef).oneCell' = true
        rw [e]; exact q1
      · show RepV _ _ (vs.getD j undef)
        rw [e]; exact q3 _
      show W.cell? ⟨(outZE W ps).A0.at_ f 0, j, none⟩ = _
      rw [hat, cell_of_row W _ _ vs T fr h0]
      show vs[j]? = some (vs.getD j undef)
      rw [e, hv]
  · have hq : g = q := Option.some.inj hq
    subst hq
    refine ⟨hat 0, fun cs hcs => ?_⟩
    simp only [List.getElem?_cons_zero, Option.some.injEq] at hcs
    subst hcs
    exact ⟨vs, T, fr, h0, hsz⟩
theorem calls_law_pinZ {f : FuncId} {con : Con} (hk : KeepsZ P f con) {W : World} {ps : List (Nat × Array Value × List AV)} (hg : ∀ p ∈ ps, (∃ T fr, W.heap[p.1]? = some (.cells p.2.1 T fr)) ∧ p.2.1.size = p.2.2.length ∧ ∀ (j : Nat) a v, p.2.2[j]? = some a → p.2.1[j]? = some v → v.oneCell' = true ∧ pureB a = true ∧ ∀ c, RepV c a v)
    {args : List Value} {aargs : List AV} {b : Bool} (hargs : RepA (zX W ps) aargs args) (hc : con.C aargs [] (pinZF ps) fun r _ _ => r = B b) :
    Calls P f args.toArray W fun e W' => e = .returned (.bool b) ∧ Below W.heap.size W W' := by
  have hE : SpOk (outZE W ps) := ⟨fun _ h => h, rfl, rfl, fun f i hf => by
    have hf : f < ps.length := hf
    show (ps.getD f (0, #[], [])).1 < W.heap.size
    have e : ps.getD f (0, #[], []) = ps[f] := by simp [List.getD, hf]
    rw [e]
    obtain ⟨⟨T, fr, h0⟩, _⟩ := hg _ (List.getElem_mem hf)
    exact (Array.getElem?_eq_some_iff.1 h0).1⟩
  refine (hk (outZE W ps) args aargs (pinZF ps) _ hE hc hargs.1 (pinZ_sat W hg) hargs.2).mono ?_
  rintro e W' ⟨v, r, hs, nF, ρ, A, rfl, rfl, hsat, hr, _⟩
  have hv : v = .bool b := by cases hr; rfl
  subst hv
  exact ⟨rfl, hsat.os, hsat.tape, hsat.output, hsat.size, fun k hk' => hsat.frame k hk' fun i hi => absurd hi (by simp [outZE])⟩
end
/-- The list that the row's table makes. -/
def tabZ : List (Nat × Array Value × List AV) := [(0, (Lib.pow10Tab.map fun z => Value.int .u64 z).toArray, tabRow)]
theorem tabZ_has : hasTab (pinZF tabZ) := rfl
theorem tab_vals : tabRow = (Lib.pow10Tab.map fun z => Value.int .u64 z).map .val := by simp [tabRow]
theorem tabZ_famsZ : famsZ (pinZF tabZ) := by
  intro fam hf cs hcs a ha
  unfold pinZF tabZ at hf
  simp only [List.map_cons, List.map_nil, List.mem_singleton] at hf
  subst hf
  simp only [List.mem_singleton] at hcs
  subst hcs
  rw [tab_vals] at ha
  obtain ⟨v, _, rfl⟩ := List.mem_map.1 ha
  rfl
/-- A law's call where the tables are as the row lists them. -/
theorem calls_laidZ {f : FuncId} {con : Con} (hk : KeepsZ Tryd.prog f con) {W : World} (hL : laidMetH Tryd.prog tabsL W) {args : List Value} {aargs : List AV} {b : Bool} (hargs : ∀ ps, RepA (zX W ps) aargs args)
    (hc : ∀ Fs, hasTab Fs ∧ famsZ Fs → con.C aargs [] Fs fun r _ _ => r = B b) :
    Calls Tryd.prog f args.toArray W fun e W' => e = .returned (.bool b) ∧ Below W.heap.size W W' := by
  obtain ⟨T, fr, hg⟩ := tab_block (tab_of_laid hL)
  refine calls_law_pinZ hk (ps := tabZ) (fun p hp => ?_) (hargs _) (hc _ ⟨tabZ_has, tabZ_famsZ⟩)
  unfold tabZ at hp
  rw [List.mem_singleton.1 hp]
  refine ⟨⟨T, fr, hg⟩, by simp [tab_vals], fun j a v ha hv => ?_⟩
  have ha : tabRow[j]? = some a := ha
  rw [tab_vals, List.getElem?_map] at ha
  obtain ⟨u, hu, rfl⟩ := Option.map_eq_some_iff.1 ha
  have hv : (Lib.pow10Tab.map fun z => Value.int .u64 z)[j]? = some v := by simpa using hv
  have e : u = v := Option.some.inj (hu.symm.trans hv)
  subst e
  exact ⟨tab_one u (by simpa using List.mem_of_getElem? hu), rfl, fun c => .val u⟩
end Go.Proofs.YtdljacpmoaeepaaDoor
