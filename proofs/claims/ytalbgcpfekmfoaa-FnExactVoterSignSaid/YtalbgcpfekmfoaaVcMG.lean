/-
From a contract to the call that a law's row asks for: what the arguments are, and that they read afterwards as they did.
From a contract to the call that a law's row asks for, where one variable of the program is known to hold a table.
No conditions.
-/
import Derived.Test.YtalbgcpfekmfoaaVcMF
import Derived.Below
import Derived.WideKeyArgs
import Derived.ChangeSame
import Derived.ChangeSlices
import Derived.RowKit3
namespace Go.Vc
open Go.RowKit Go.WideShapes Go.ChangeShapes
variable {P : Program} {H : Type} {enc : TypeId × Value → H}

/-- The entry of a call from outside: all that there is may be read, nothing is owned. -/
def outE (W : World) : Entry := ⟨W, fun b => b < W.heap.size, fun b => b < W.heap.size, 0, fun i => i, fun _ => False, ⟨fun _ _ => 0, 0⟩, false, []⟩
abbrev outC (W : World) : Ctx := ctxOf (outE W) (listH []) (outE W).w0 (outE W).ρ0 (outE W).A0
theorem out_sat (W : World) : SatW (outE W) (listH []) [] W (outE W).ρ0 (outE W).A0 := by
  have hd : ∀ k, listH [] k = .dead := fun k => rfl
  refine { os := rfl, tape := rfl, output := rfl, size := Nat.le_refl _, frame := fun _ _ _ => rfl, okB := fun b hb => ⟨hb, fun i hi => absurd hi (by simp [outE])⟩, zB := fun b hb => ⟨hb, fun i hi => absurd hi (by simp [outE])⟩,
           place := fun k hk => absurd (hd k) hk, inj := fun k _ hk => absurd (hd k) hk, stay := fun k cs hk => absurd hk (by simp [outE]), fix := fun h => (by cases h), grow := fun h => (by cases h), pins := fun p hp => by simp [outE] at hp, obj := fun k => by rw [hd k]; trivial, fl := rfl, nf := Nat.le_refl _, A0 := fun _ _ => rfl, fam := fun f fam hf => by simp at hf }

theorem rep_cons {c : Ctx} {a : AV} {v : Value} {as : List AV} {vs : List Value} (h : RepV c a v) (h1 : v.oneCell' = true) (k : RepL c as vs) : RepL c (a :: as) (v :: vs) := (RepL.one h h1).append k
theorem ints_one {c : Ctx} {l : List Int} {v : Value} (h : RepV c (.ints l) v) : v.oneCell' = true := by
  obtain ⟨a, cap, rfl, _⟩ := h.ints_slice
  rfl
/-- The arguments of a call, one behind the other. -/
def RepA (c : Ctx) (as : List AV) (vs : List Value) : Prop := vs.length = as.length ∧ ∀ (i : Nat) a v, as[i]? = some a → vs[i]? = some v → RepV c a v
theorem repA_nil {c : Ctx} : RepA c [] [] := ⟨rfl, fun i a v h => by simp at h⟩
theorem repA_cons {c : Ctx} {a : AV} {v : Value} {as : List AV} {vs : List Value} (h : RepV c a v) (k : RepA c as vs) : RepA c (a :: as) (v :: vs) := by
  refine ⟨by simp [k.1], fun i x y hx hy => ?_⟩
  cases i with
  | zero => simp at hx hy; subst hx hy; exact h
  | succ i => exact k.2 i x y (by simpa using hx) (by simpa using hy)
/-- A law's call. -/
theorem calls_law {f : FuncId} {con : Con} (hk : Keeps' P f con) {W : World} {args : List Value} {aargs : List AV} {b : Bool} (hargs : RepA (outC W) aargs args) (hc : con.C aargs [] [] fun r _ _ => r = B b) :
    Calls P f args.toArray W fun e W' => e = .returned (.bool b) ∧ Below W.heap.size W W' := by
  refine (hk (outE W) args aargs [] [] _ hc hargs.1 rfl (out_sat W) hargs.2 (fun h => by cases h)).mono ?_
  rintro e W' ⟨v, r, hs, nF, ρ, A, rfl, rfl, hsat, hr, _⟩
  have hv : v = .bool b := by cases hr; rfl
  subst hv
  exact ⟨rfl, hsat.os, hsat.tape, hsat.output, hsat.size, fun k hk' => hsat.frame k hk' fun i hi => absurd hi (by simp [outE])⟩

theorem rep_ints {W : World} {a : Addr} {len cap : Nat} {zs : List Int} (hl : len ≤ cap) (hz : zs.length = cap) (hcell : ∀ i, i < zs.length → W.cell? (a.add i) = some (.int .i64 (zs.getD i 0))) (hok : ∀ p ∈ MemPlace.row a zs.length, p.block < W.heap.size) :
    RepV (outC W) (.ints (zs.take len)) (.slice (some a) len cap) := by
  have hlt : (icells (zs.take len)).length = len := by simp [icells]; omega
  by_cases h0 : len = 0
  · subst h0
    exact .ints _ _ (.sl0 1 _ _)
  · have hb : a.block < W.heap.size := hok (.cell a.block (a.off + 0)) (List.mem_map.2 ⟨0, by simp; omega, rfl⟩)
    obtain ⟨b, off, sp⟩ := a
    have hsp : sp = none := by
      have := hcell 0 (by omega)
      simp only [Addr.add, if_true, World.cell?] at this
      cases sp with
      | none => rfl
      | some x => split at this <;> simp at this
    subst hsp
    refine .ints _ _ ?_
    have := RepV.sl (c := outC W) 1 (icells (zs.take len)) b off cap (fun i _ => .int .i64 (zs.getD i 0)) (.inl hb) (by rw [hlt]; exact hl) (fun i e hi => ?_) (fun i e j x hi hj => ?_) (fun i e j x hi hj => ?_)
    · rw [hlt] at this; exact this
    · obtain ⟨x, _, rfl⟩ := icells_get.1 hi; rfl
    · obtain ⟨y, hy, rfl⟩ := icells_get.1 hi
      cases j with
      | succ j => simp at hj
      | zero =>
        simp at hj
        subst hj
        have hil := (List.getElem?_eq_some_iff.1 hy).1
        have hc := hcell i (by simp at hil; omega)
        refine ⟨?_, rfl, rfl⟩
        rw [← hc]
        simp only [Nat.mul_one, Nat.add_zero, Addr.add]
        split
        · rename_i e; subst e; rfl
        · rfl
    · obtain ⟨y, hy, rfl⟩ := icells_get.1 hi
      cases j with
      | succ j => simp at hj
      | zero =>
        simp at hj
        subst hj
        rw [List.getElem?_take] at hy
        split at hy
        · simp only [List.getD, hy, Option.getD_some]; exact .val _
        · cases hy

/-- A slice of integers among the arguments. -/
theorem open_argInts {W : World} {t e : TypeId} {n : Nat} {v : Value} {y : DataW H × List MemPlace} (ht : P.underlying t = some (.slice e)) (he : P.underlying e = some (.int .i64)) (hc : P.cellsOf e = 1)
    (h : DataW.trod enc P W 0 (fun _ => true) true n t [v] = some y) (hp : ∀ p ∈ y.2, p.block < W.heap.size) :
    ∃ l : List Int, RepV (outC W) (.ints l) v ∧ l.length ≤ 9223372036854775807 ∧ ∀ x ∈ l, -9223372036854775808 ≤ x ∧ x ≤ 9223372036854775807 := by
  rcases open_ints ht he hc h with ⟨hcs, _⟩ | ⟨a, len, cap, zs, hcs, _, hl, hm, hz, hx, hcell, hwf⟩
  · simp only [List.cons.injEq, and_true] at hcs
    subst hcs
    exact ⟨[], .ints _ _ (.sl0 1 _ _), by simp, by simp⟩
  · simp only [List.cons.injEq, and_true] at hcs
    subst hcs
    simp only [if_true] at hz
    refine ⟨zs.take len, rep_ints hl hz hcell ?_, ?_, fun x hx => ?_⟩
    · rw [hx] at hp; exact hp
    · have : (zs.take len).length ≤ cap := by simp; omega
      unfold maxLen at hm
      omega
    · have := hwf x (List.mem_of_mem_take hx)
      simp [Lit.wf, IntKind.min, IntKind.max, IntKind.signed, IntKind.bits] at this
      omega

theorem rep_bytes {W : World} {a : Addr} {len cap : Nat} {zs : List Int} (hl : len ≤ cap) (hz : zs.length = cap) (hcell : ∀ i, i < zs.length → W.cell? (a.add i) = some (.int .u8 (zs.getD i 0))) (hwf : ∀ z ∈ zs, 0 ≤ z ∧ z ≤ 255) (hok : ∀ p ∈ MemPlace.row a zs.length, p.block < W.heap.size) :
    RepV (outC W) (.bytes ((zs.take len).map fun z => UInt8.ofNat z.toNat)) (.slice (some a) len cap) := by
  have hlt : ((zs.take len).map fun z => UInt8.ofNat z.toNat).length = len := by simp; omega
  by_cases h0 : len = 0
  · subst h0
    exact .bytes0 _ _
  · have hb : a.block < W.heap.size := hok (.cell a.block (a.off + 0)) (List.mem_map.2 ⟨0, by simp; omega, rfl⟩)
    obtain ⟨b, off, sp⟩ := a
    have hsp : sp = none := by
      have := hcell 0 (by omega)
      simp only [Addr.add, if_true, World.cell?] at this
      cases sp with
      | none => rfl
      | some x => split at this <;> simp at this
    subst hsp
    have := RepV.bytes (c := outC W) ((zs.take len).map fun z => UInt8.ofNat z.toNat) b off cap hb (by rw [hlt]; exact hl) (fun i x hi => ?_)
    · rw [hlt] at this; exact this
    · rw [List.getElem?_map] at hi
      obtain ⟨z, hz', rfl⟩ := Option.map_eq_some_iff.1 hi
      rw [List.getElem?_take] at hz'
      split at hz'
      · have hil := (List.getElem?_eq_some_iff.1 hz').1
        have hc := hcell i hil
        have hzd : zs.getD i 0 = z := by simp [List.getD, hz']
        have hw := hwf z (List.mem_of_getElem? hz')
        rw [hzd] at hc
        have e : ((UInt8.ofNat z.toNat).toNat : Int) = z := by
          rw [UInt8.toNat_ofNat']
          omega
        show W.cell? ⟨b, off + i, none⟩ = _
        rw [e, ← hc]
        simp only [Addr.add]
        split
        · rename_i e; subst e; rfl
        · rfl
      · cases hz'
theorem open_argBytes {W : World} {t e : TypeId} {n : Nat} {v : Value} {y : DataW H × List MemPlace} (ht : P.underlying t = some (.slice e)) (he : P.underlying e = some (.int .u8)) (hc : P.cellsOf e = 1)
    (h : DataW.trod enc P W 0 (fun _ => true) true n t [v] = some y) (hp : ∀ p ∈ y.2, p.block < W.heap.size) :
    ∃ l : List UInt8, RepV (outC W) (.bytes l) v ∧ l.length ≤ 9223372036854775807 := by
  rcases open_ints ht he hc h with ⟨hcs, _⟩ | ⟨a, len, cap, zs, hcs, _, hl, hm, hz, hx, hcell, hwf⟩
  · simp only [List.cons.injEq, and_true] at hcs
    subst hcs
    exact ⟨[], .bytes0 _ _, by simp⟩
  · simp only [List.cons.injEq, and_true] at hcs
    subst hcs
    simp only [if_true] at hz
    refine ⟨_, rep_bytes hl hz hcell (fun z hz => ?_) ?_, ?_⟩
    · have := hwf z hz
      simp [Lit.wf, IntKind.min, IntKind.max, IntKind.signed, IntKind.bits] at this
      omega
    · rw [hx] at hp; exact hp
    · have : ((zs.take len).map fun z => UInt8.ofNat z.toNat).length ≤ cap := by simp; omega
      unfold maxLen at hm
      omega

/-- All arguments read afterwards as they did. -/
theorem trodAll_stays (hl : laidOutB P = true) {W W' : World} (hb : Below W.heap.size W W') {sp : Nat → Bool} : ∀ {ts : List TypeId} {vs : List Value} {ds : List (DataW H)} {ps : List MemPlace}, (∀ t ∈ ts, P.readableRec t = true ∧ t < P.types.size) →
    DataW.TrodAll enc P W 0 (fun _ => true) true ts vs ds ps → (∀ x ∈ ps, x.block < W.heap.size) → (∀ x ∈ ps, sp x.block = true) → DataW.TrodAll enc P W' 0 sp true ts vs ds ps
  | [], _, _, _, _, h, _, _ => by
    obtain ⟨rfl, rfl, rfl⟩ := trodAll_nil h
    exact trodAll_mk0
  | t :: ts, _, _, _, ht, h, hlt, hsp => by
    obtain ⟨v, vs', d, ds', p, q, rfl, rfl, rfl, h1, h2⟩ := trodAll_cons h
    obtain ⟨hr, hrow⟩ := ht t (by simp)
    exact ⟨p, q, WideElems.Trod_stays hl hr hrow h1 (fun x hx => hb.same (hlt x (List.mem_append_left _ hx))) (fun x hx => hsp x (List.mem_append_left _ hx)),
      trodAll_stays hl hb (fun t ht' => ht t (by simp [ht'])) h2 (fun x hx => hlt x (List.mem_append_right _ hx)) (fun x hx => hsp x (List.mem_append_right _ hx)), rfl⟩

/-- What a law's row asks behind the call: true, and all arguments as before. -/
theorem post_law {f : Func} {s : ChangeSpec} {apart fresh handsOn again : Bool} {W W' : World} {args : Array Value} {ds gs : List (DataW H)} {before : List MemPlace} {t : TypeId} (hl : laidOutB P = true)
    (ht : ∀ t ∈ f.params.toList, P.readableRec t = true ∧ t < P.types.size) (hrt : f.resultTypes = #[t]) (hu : P.underlying t = some .bool) (hv : s.vars = [])
    (hres : (s.fn H (ds ++ gs)).results = [.lit (.bool true)]) (hargs : (s.fn H (ds ++ gs)).args = ds) (hvars : (s.fn H (ds ++ gs)).vars = [])
    (hW : DataW.Whole enc P f.params.toList s.vars apart W args.toList ds gs before) (hb : Below W.heap.size W W') : s.post enc P f apart fresh handsOn again W args (.bool true) W' := by
  have hlt : ∀ p ∈ before, p.block < W.heap.size := hW.lt
  have hW' := hW
  obtain ⟨pa, pv, hA, hV, hbe, hz, hn⟩ := hW
  rw [hv] at hV
  obtain ⟨hgs, hpv⟩ := trodVars_none hV
  have hbe' : before = pa := by rw [hbe, hpv, List.append_nil]
  have hA' : ∀ sp : Nat → Bool, (∀ p ∈ before, sp p.block = true) → DataW.TrodAll enc P W' 0 sp true f.params.toList args.toList (s.fn H (ds ++ gs)).args pa := fun sp hsp => by
    rw [hargs]
    exact trodAll_stays hl hb ht hA (fun x hx => hlt x (by rw [hbe']; exact hx)) (fun x hx => hsp x (by rw [hbe']; exact hx))
  have hR : ∀ (b : Nat) (sp : Nat → Bool) (hd : Bool), DataW.TrodAll enc P W' b sp hd f.resultTypes.toList (Value.resultList f.resultTypes.size (.bool true)) (s.fn H (ds ++ gs)).results [] := fun b sp hd => by
    rw [hrt, hres]
    exact trodAll_mk1 (shut_bool hu true)
  have hVs : ∀ sp : Nat → Bool, DataW.TrodVars enc P W' sp s.vars (s.fn H (ds ++ gs)).vars [] := fun sp => by
    rw [hv, hvars]
    simp [DataW.TrodVars]
  have hold : ∀ p ∈ before, (fun b => decide (b < W.heap.size)) p.block = true := fun p hp => by simpa using hlt p hp
  refine ⟨ds, gs, before, [], pa, [], hW', hR _ _ _, hA' _ hold, hVs _, World.keptBut_mono (fun p hp => ⟨hp, ?_⟩) (hb.frame (· ∈ before)), fun _ => ?_⟩
  · rw [hbe'] at hp
    exact .inr (by simpa using hp)
  · refine ⟨?_, _, _, ([] ++ pa) ++ [], ⟨[] ++ pa, [], trodAll_append (hA' _ fun _ _ => rfl) (hR _ _ _), hVs _, rfl, ?_, ?_⟩, ?_⟩
    · intro j t' r hj hr
      rw [hrt] at hj hr
      cases j with
      | zero =>
        simp [Value.resultList] at hj hr
        subst hj hr
        simp [Value.okWide, hu, Cell.okWide, Cell.ok]
      | succ j => simp at hj
    · intro b off hp
      have hin : MemPlace.cell b off ∈ before := by rw [hbe']; simpa using hp
      rw [hb.frozen (hlt _ hin)]
      exact hz b off hin
    · intro ha
      have := hn ha
      rw [hbe'] at this
      simpa using this
    · intro p hp _
      rw [hbe']
      simpa using hp
end Go.Vc
namespace Go.Vc
open Go.RowKit Go.WideShapes Go.ChangeShapes
variable {P : Program} {H : Type} {enc : TypeId × Value → H}

/-- The entry of a call from outside: all that there is may be read, nothing is owned, block g is known. -/
def tabE (W : World) (g : Nat) : Entry := ⟨W, fun b => b < W.heap.size, fun b => b < W.heap.size, 0, fun i => i, fun _ => False, ⟨fun _ _ => g, 1⟩, false, []⟩
abbrev tabX (W : World) (g : Nat) : Ctx := ctxOf (tabE W g) (listH []) (tabE W g).w0 (tabE W g).ρ0 (tabE W g).A0
abbrev tabF (g : Nat) (vs : Array Value) : List Fam := [⟨some g, [vs.toList.map .val]⟩]
theorem tab_sat (W : World) {g : Nat} {vs : Array Value} {T : TypeId} {fr : Nat × Nat} (hg : W.heap[g]? = some (.cells vs T fr)) (h1 : ∀ v ∈ vs.toList, v.oneCell' = true) :
    SatW (tabE W g) (listH []) (tabF g vs) W (tabE W g).ρ0 (tabE W g).A0 := by
  have hd : ∀ k, listH [] k = .dead := fun k => rfl
  have hlt : g < W.heap.size := (Array.getElem?_eq_some_iff.1 hg).1
  refine { os := rfl, tape := rfl, output := rfl, size := Nat.le_refl _, frame := fun _ _ _ => rfl, okB := fun b hb => ⟨hb, fun i hi => absurd hi (by simp [tabE])⟩, zB := fun b hb => ⟨hb, fun i hi => absurd hi (by simp [tabE])⟩,
           place := fun k hk => absurd (hd k) hk, inj := fun k _ hk => absurd (hd k) hk, stay := fun k cs hk => absurd hk (by simp [tabE]), fix := fun h => (by cases h), grow := fun h => (by cases h), pins := fun p hp => by simp [tabE] at hp, obj := fun k => by rw [hd k]; trivial, fl := rfl, nf := Nat.le_refl _, A0 := fun _ _ => rfl, fam := fun f fam hf => ?_ }
  cases f with
  | succ f => simp at hf
  | zero =>
    simp only [tabF, List.getElem?_cons_zero, Option.some.injEq] at hf
    subst hf
    refine ⟨fun i cs hi => ?_, fun i j hi hj _ => by simp at hi hj; omega, fun p hp => ?_, fun hp => (by cases hp)⟩
    · cases i with
      | succ i => simp at hi
      | zero =>
        simp only [List.getElem?_cons_zero, Option.some.injEq] at hi
        subst hi
        refine ⟨.inl (.inl hlt), fun j => vs.toList.getD j undef, fun j a hj => ?_⟩
        rw [List.getElem?_map] at hj
        obtain ⟨v, hv, rfl⟩ := Option.map_eq_some_iff.1 hj
        have e : vs.toList.getD j undef = v := by simp [List.getD, hv]
        refine ⟨?_, rfl, ?_, ?_⟩
        rotate_left
        · show (vs.toList.getD j undef).oneCell' = true
          rw [e]; exact h1 v (List.mem_of_getElem? hv)
        · show RepV _ _ (vs.toList.getD j undef)
          rw [e]; exact .val v
        show W.cell? ⟨g, j, none⟩ = _
        rw [cell_of_row W _ _ vs T fr hg]
        show vs[j]? = some (vs.toList.getD j undef)
        rw [e]
        simpa using hv
    · have hp : g = p := Option.some.inj hp
      subst hp
      refine ⟨rfl, fun cs hcs => ?_⟩
      simp only [List.getElem?_cons_zero, Option.some.injEq] at hcs
      subst hcs
      exact ⟨vs, T, fr, hg, by simp⟩
theorem out_tab {W : World} {g : Nat} {a : AV} {v : Value} (h : RepV (outC W) a v) (hp : pureA a = true) : RepV (tabX W g) a v :=
  RepV.pure_move (c := outC W) (c' := tabX W g) ⟨fun _ hb => hb, fun _ _ => rfl, fun _ hb => hb, fun _ _ => rfl, ⟨Nat.zero_le _, fun f hf => absurd hf (Nat.not_lt_zero f)⟩⟩ h hp
/-- A law's call, the table known. -/
theorem calls_law_tab {f : FuncId} {con : Con} (hk : Keeps' P f con) {W : World} {g : Nat} {vs : Array Value} {T : TypeId} {fr : Nat × Nat} (hg : W.heap[g]? = some (.cells vs T fr)) (h1 : ∀ v ∈ vs.toList, v.oneCell' = true)
    {args : List Value} {aargs : List AV} {b : Bool} (hargs : RepA (outC W) aargs args) (hp : ∀ a ∈ aargs, pureA a = true) (hc : con.C aargs [] (tabF g vs) fun r _ _ => r = B b) :
    Calls P f args.toArray W fun e W' => e = .returned (.bool b) ∧ Below W.heap.size W W' := by
  refine (hk (tabE W g) args aargs [] (tabF g vs) _ hc hargs.1 rfl (tab_sat W hg h1) (fun i a v ha hv => out_tab (hargs.2 i a v ha hv) (hp a (List.mem_of_getElem? ha))) (fun h => by cases h)).mono ?_
  rintro e W' ⟨v, r, hs, nF, ρ, A, rfl, rfl, hsat, hr, _⟩
  have hv : v = .bool b := by cases hr; rfl
  subst hv
  exact ⟨rfl, hsat.os, hsat.tape, hsat.output, hsat.size, fun k hk' => hsat.frame k hk' fun i hi => absurd hi (by simp [tabE])⟩
end Go.Vc
