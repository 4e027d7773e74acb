/-
The operations that make or write memory: what each asks and leaves, and that the model does so.
No conditions.
-/
import Derived.Test.YtgfpcjomgmdapaaVcFlat
namespace Go.Vc
variable {P : Program} {T : TT} {E : Entry} {w : World} {ρ : Nat → Nat} {A : FA} {S : FS} {tm : Nat} {a : Act}

theorem href_new {H : Nat → AO} {k : Nat} {r : AV} {v : Value} (hd : H k = .dead) (hr : refOf r = some k) (h : RepV (ctxOf E H w ρ A) r v) : False := by
  have hisr : isRef r = true := by cases r <;> simp_all [refOf, isRef]
  obtain ⟨k', hk', ha⟩ := RepO.alive_of hisr h
  rw [hr] at hk'
  cases hk'
  exact ha hd

/-- A new block. -/
theorem Sat.alloc (h : Sat E S tm a w ρ A) {n : Nat} (hn0 : E.n0 ≤ n) (hn : S.H n = .dead) {o : AO} {vs : Array Value} {ty : TypeId}
    (hobj : ∀ c : Ctx, (∀ r v, RepV (ctxOf E S.H w ρ A) r v → RepV c r v) → c.w.heap[c.ρ n]? = some (.cells vs ty (0, 0)) → RepO c n o) :
    Sat E ⟨S.env, setH S.H n o, S.F⟩ tm a (w.alloc (.cells vs ty)) (setρ ρ n w.heap.size) A := by
  have s : StepOk E S.H w ρ A n o w.heap.size (w.alloc (.cells vs ty)) (setH S.H n o) := by
    refine ⟨rfl, rfl, rfl, by simp, fun b' hb _ => heap_alloc_old w _ hb, fun _ => ⟨by simp, .inr (Nat.le_refl _)⟩, fun i hi => by simp [alive, setH, hi], by simp [setH], fun _ _ hlt => absurd hlt (by omega), fun _ hlt => absurd hlt (by omega), fun _ hlt => absurd hlt (by omega)⟩
  refine h.step s (fun href => hobj _ (fun r v hr => hr.stay (s.keeps h.toSatW) href) ?_) fun r v hr hv => (href_new hn hr hv).elim
  show (w.alloc _).heap[setρ ρ n w.heap.size n]? = _
  simp only [setρ, if_true]
  exact heap_alloc_new w _

/-- A write into the block of an object, all references staying good. -/
theorem Sat.write (h : Sat E S tm a w ρ A) {k : Nat} (ha : alive S.H k) {o : AO} (hinfo : o.info = (S.H k).info) (hcell : ∀ cs, S.H k = .cells cs → ∃ cs', o = .cells cs') {vs vs' : Array Value} {ty : TypeId}
    (hb : w.heap[ρ k]? = some (.cells vs ty (0, 0))) (hsz : vs.size ≤ vs'.size)
    (hobj : ∀ c : Ctx, (∀ r v, RepV (ctxOf E S.H w ρ A) r v → RepV c r v) → c.w.heap[c.ρ k]? = some (.cells vs' ty (0, 0)) → RepO c k o) :
    Sat E ⟨S.env, setH S.H k o, S.F⟩ tm a (w.setRow (ρ k) vs') (setρ ρ k (ρ k)) A := by
  have s : StepOk E S.H w ρ A k o (ρ k) (w.setRow (ρ k) vs') (setH S.H k o) := by
    refine ⟨rfl, rfl, rfl, by simp, fun b' _ hne => setRow_other w _ _ _ (hne ha), fun _ => ⟨by simpa using (h.place k ha).1, .inl ⟨ha, rfl⟩⟩, fun i hi => by simp [alive, setH, hi], by simp [setH], fun cs hcs _ => ⟨rfl, ?_⟩, fun _ _ _ => ⟨rfl, ha⟩, fun _ _ _ vs0 T0 fr0 h0 => ?_⟩
    rotate_left
    · rw [hb] at h0; cases h0; exact ⟨vs', ty, (0, 0), setRow_heap w _ vs vs' ty (0, 0) hb, hsz⟩
    rw [hcs] at hinfo
    cases hH : S.H k with
    | cells cs' => exact ⟨cs', rfl⟩
    | dead => exact absurd hH ha
    | iarr l => rw [hH] at hinfo; simp [AO.info] at hinfo
    | arr sz l => rw [hH] at hinfo; simp [AO.info] at hinfo
  have hw' : (w.setRow (ρ k) vs').heap[ρ k]? = some (.cells vs' ty (0, 0)) := setRow_heap w _ vs vs' ty (0, 0) hb
  refine h.step s (fun href => hobj _ (fun r v hr => hr.stay (s.keeps h.toSatW) href) (by simpa [setρ] using hw')) fun r v hr hv => ?_
  refine hv.ref_other hr (by simp [setρ]) (by simpa [setH] using hinfo) (fun cs hcs => by simpa [setH] using hcell cs hcs) fun vs0 T0 fr0 h0 => ?_
  have h0 : w.heap[ρ k]? = some (.cells vs0 T0 fr0) := h0
  rw [hb] at h0
  cases h0
  exact ⟨vs', ty, (0, 0), hw', hsz⟩

theorem fr_alloc {H : Nat → AO} {n : Nat} (hn : H n = .dead) {o : AO} {vs : Array Value} {ty : TypeId} {tch : Nat → Prop} : Fr H ρ w tch (setH H n o) (setρ ρ n w.heap.size) (w.alloc (.cells vs ty)) := by
  refine ⟨by simp, fun b hb _ => heap_alloc_old w _ hb, fun i hi => ?_, fun i hi _ => ?_⟩
  · by_cases e : i = n
    · subst e; simp [setρ]
    · simp only [setρ, if_neg e]
      exact .inl ⟨by simpa [alive, setH, e] using hi, trivial⟩
  · have e : i ≠ n := by rintro rfl; exact hi hn
    simp only [setρ, if_neg e]
    exact ⟨by simpa [alive, setH, e] using hi, trivial⟩
theorem Fr.of_drew {H H' : Nat → AO} {ρ' : Nat → Nat} {tch : Nat → Prop} {w' : World} (h : Fr H ρ w.drew tch H' ρ' w') : Fr H ρ w tch H' ρ' w' := ⟨h.size, h.same, h.src, h.keep⟩
theorem fr_write {H : Nat → AO} {k : Nat} (ha : alive H k) {o : AO} {vs : Array Value} {tch : Nat → Prop} (hk : tch k) : Fr H ρ w tch (setH H k o) ρ (w.setRow (ρ k) vs) := by
  refine ⟨by simp, fun b hb hn => setRow_other w _ _ _ (hn k ha hk).symm, fun i hi => ?_, fun i hi hn => ?_⟩
  · refine .inl ⟨?_, rfl⟩
    by_cases e : i = k
    · subst e; exact ha
    · simpa [alive, setH, e] using hi
  · have e : i ≠ k := by rintro rfl; exact hn hk
    exact ⟨by simpa [alive, setH, e] using hi, rfl⟩
theorem setρ_self (ρ : Nat → Nat) (k : Nat) : setρ ρ k (ρ k) = ρ := by
  funext i; simp only [setρ]; split <;> simp_all

/-- The object that a row of elements makes: integers by their numbers. -/
def isInt (te : TI) : Bool := te.kind == 6 && te.ik == .i64 && !te.agg && te.size == 1
def intsOf : List AV → (List Int → Prop) → Prop
  | [], K => K []
  | .val (.int .i64 n) :: r, K => intsOf r fun l => K (n :: l)
  | _ :: _, _ => False
def chunks (sz : Nat) : Nat → List AV → List (List AV)
  | 0, _ => []
  | n + 1, cs => cs.take sz :: chunks sz n (cs.drop sz)
def mkArr (te : TI) (n : Nat) (cs : List AV) (K : AO → Prop) : Prop :=
  if isInt te then intsOf cs fun l => K (.iarr l)
  else cs.all pureB = true ∧ K (.arr te.size (chunks te.size n cs))

def storeA (T : TT) (H : Nat → AO) (t : TypeId) (p x : AV) (K : Nat → AO → Prop) : Prop :=
  match T t, cellsOf x with
  | some ti, some cs => cs.length = ti.size ∧ match p with
    | .ptr k off => match H k with
      | .cells ds => off + cs.length ≤ ds.length ∧ K k (.cells (splice ds off cs))
      | _ => False
    | .el k i off => match H k with
      | .iarr l => off = 0 ∧ intsOf cs fun
        | [x] => K k (.iarr (l.set i x))
        | _ => False
      | .arr sz l => cs.all pureB = true ∧ ∀ e, l[i]? = some e → off + cs.length ≤ sz ∧ K k (.arr sz (l.set i (splice e off cs)))
      | _ => False
    | _ => False
  | _, _ => False

def litInts : List AV → Option (List Int)
  | [] => some []
  | .val (.int .i64 n) :: r => match litInts r with
    | some l => some (n :: l)
    | none => none
  | _ :: _ => none
/-- The numbers that a source of an append holds. -/
def intsSrc (H : Nat → AO) (x : AV) : Option (List Int) :=
  match x with
  | .ints l => some l
  | .own k => match H k with
    | .iarr l => some l
    | _ => none
  | .sub k p q => match H k with
    | .iarr l => some ((l.drop p).take (q - p))
    | _ => none
  | .win k off n => match H k with
    | .cells cs => if off + n ≤ cs.length then litInts ((cs.drop off).take n) else none
    | _ => none
  | .val (.slice none 0 0) => some []
  | _ => none

/-- The append onto the first 'hi' elements of object k. -/
def appendTo (te : TI) (H : Nat → AO) (x : AV) (k hi : Nat) (K : Eff → Prop) : Prop :=
  match H k with
  | .iarr l => te.size = 1 ∧ match intsSrc H x with
    | some l2 => hi ≤ l.length ∧ (hi + l2.length) * te.bytes ≤ 140737488355328 ∧ hi + l2.length ≤ 9223372036854775807 ∧ K { val := .own k, kill := some k, upd := [(k, .iarr (l.take hi ++ l2))] }
    | none => False
  | .arr sz l => te.size = sz ∧ match srcA H x sz with
    | some es => hi ≤ l.length ∧ (hi + es.length) * te.bytes ≤ 140737488355328 ∧ hi + es.length ≤ 9223372036854775807 ∧ K { val := .own k, kill := some k, upd := [(k, .arr sz (l.take hi ++ es))] }
    | none => False
  | _ => False

def appendA (T : TT) (H : Nat → AO) (n : Nat) (t t2 : TypeId) (s x : AV) (K : Eff → Prop) : Prop :=
  match T t, T t2 with
  | some ti, some ti2 => ti.kind = 1 ∧ ti2.kind = 1 ∧ match T ti.elem with
    | some te => match s with
      | .own k => match H k with
        | .iarr l => appendTo te H x k l.length K
        | .arr _ l => appendTo te H x k l.length K
        | _ => False
      | .sub k 0 hi => appendTo te H x k hi K
      | .val (.slice none 0 0) =>
        if isInt te then match intsSrc H x with
          | some l => l.length * te.bytes ≤ 140737488355328 ∧ l.length ≤ 9223372036854775807 ∧ (l = [] → K { val := .val (.slice none 0 0) }) ∧ (l ≠ [] → K { val := .own n, new := [.iarr l] })
          | none => False
        else match srcA H x te.size with
          | some es => es.length * te.bytes ≤ 140737488355328 ∧ es.length ≤ 9223372036854775807 ∧ (es = [] → K { val := .val (.slice none 0 0) }) ∧ (es ≠ [] → K { val := .own n, new := [.arr te.size es] })
          | none => False
      | _ => False
    | none => False
  | _, _ => False

/-- The copy into the cells of a struct's array. -/
def copyA (T : TT) (H : Nat → AO) (t : TypeId) (d x : AV) (K : Eff → Prop) : Prop :=
  match T t with
  | some ti => ti.kind = 1 ∧ match T ti.elem with
    | some te => te.size = 1 ∧ match d with
      | .win k off n => match H k, srcA H x 1 with
        | .cells cs, some es => off + n ≤ cs.length ∧ es.length ≤ n ∧ K { val := I es.length, upd := [(k, .cells (splice cs off es.flatten))] }
        | _, _ => False
      | _ => False
    | none => False
  | none => False

def memA (T : TT) (H : Nat → AO) (EV : Operand → AV) (n : Nat) (op : Op) (K : Eff → Prop) : Prop :=
  match op with
  | .alloc t => match T t with
    | some ti => K { val := .ptr n 0, new := [.cells (ti.zero.map .val)] }
    | none => False
  | .box _ x => match cellsOf (EV x) with
    | some cs => K { val := .ptr n 0, new := [.cells cs] }
    | none => False
  | .store t p x => storeA T H t (EV p) (EV x) fun k o => K { val := .val undef, upd := [(k, o)] }
  | .buildSlice t len parts => match T t with
    | some ti => ti.kind = 1 ∧ match T ti.elem with
      | some te => len * te.size ≤ 16777216 ∧ fillA (fun i => some (i * te.size, te.size)) ((List.replicate len (te.zero.map AV.val)).flatten) (parts.toList.map fun p => (p.1, EV p.2)) fun cs =>
          mkArr te len cs fun o => K { val := .own n, new := [o] }
      | none => False
    | none => False
  | .makeSlice t l c => match T t, EV l, EV c with
    | some ti, .val (.int _ nl), .val (.int _ nc) => ti.kind = 1 ∧ match T ti.elem with
      | some te => 0 ≤ nl ∧ nl ≤ nc ∧ te.bytes * nc ≤ 281474976710656 ∧ nc ≤ 9223372036854775807 ∧
          (if isInt te then te.zero = [.int .i64 0] ∧ K { val := .own n, new := [.iarr (List.replicate nl.toNat 0)] }
           else K { val := .own n, new := [.arr te.size (List.replicate nl.toNat (te.zero.map AV.val))] })
      | none => False
    | _, _, _ => False
  | .call { callee := .builtin .append, args, argTypes } => match args.toList, argTypes.toList with
    | [s, x], [t, t2] => appendA T H n t t2 (EV s) (EV x) K
    | _, _ => False
  | .call { callee := .builtin .copy, args, argTypes } => match args.toList, argTypes.toList with
    | [d, x], [t, _] => copyA T H t (EV d) (EV x) K
    | _, _ => False
  | _ => False

theorem intsOf_sound : ∀ {cs : List AV} {K : List Int → Prop}, intsOf cs K → ∃ l, K l ∧ cs = l.map I
  | [], K, h => ⟨[], h, rfl⟩
  | .val (.int .i64 n) :: r, K, h => by
    obtain ⟨l, h1, h2⟩ := intsOf_sound (cs := r) h
    exact ⟨n :: l, h1, by rw [h2]; rfl⟩
  | .any :: _, _, h => h.elim
  | .agg _ :: _, _, h => h.elim
  | .tup _ :: _, _, h => h.elim
  | .ints _ :: _, _, h => h.elim
  | .bytes _ :: _, _, h => h.elim
  | .sl _ _ :: _, _, h => h.elim
  | .ro _ :: _, _, h => h.elim
  | .ptr _ _ :: _, _, h => h.elim
  | .el _ _ _ :: _, _, h => h.elim
  | .own _ :: _, _, h => h.elim
  | .sub _ _ _ :: _, _, h => h.elim
  | .win _ _ _ :: _, _, h => h.elim
  | .clo _ _ :: _, _, h => h.elim
  | .rp _ _ _ :: _, _, h => h.elim
  | .iface _ _ :: _, _, h => h.elim
  | .val v :: r, K, h => by
    cases v with
    | int k n =>
      cases k <;> first | exact h.elim | skip
      obtain ⟨l, h1, h2⟩ := intsOf_sound (cs := r) h
      exact ⟨n :: l, h1, by rw [h2]; rfl⟩
    | _ => exact h.elim

theorem flat_icells : ∀ l : List Int, (icells l).flatten = l.map I
  | [] => rfl
  | n :: r => by
    have := flat_icells r
    simp only [icells, List.map_cons, List.flatten_cons] at this ⊢
    rw [this]; rfl

theorem chunks_spec {sz : Nat} : ∀ (n : Nat) (cs : List AV), cs.length = n * sz → (chunks sz n cs).length = n ∧ (∀ e ∈ chunks sz n cs, e.length = sz) ∧ (chunks sz n cs).flatten = cs
  | 0, cs, h => by
    have : cs = [] := List.eq_nil_of_length_eq_zero (by simpa using h)
    subst this
    simp [chunks]
  | n + 1, cs, h => by
    rw [Nat.add_mul, Nat.one_mul] at h
    obtain ⟨h1, h2, h3⟩ := chunks_spec (sz := sz) n (cs.drop sz) (by simp; omega)
    refine ⟨by simp [chunks, h1], fun e he => ?_, by simp [chunks, h3]⟩
    simp only [chunks, List.mem_cons] at he
    rcases he with rfl | he
    · simp; omega
    · exact h2 e he

/-- A block of known cells holds what mkArr says. -/
theorem mkArr_sound {te : TI} (hpos : 0 < te.size) {n : Nat} {cs : List AV} {K : AO → Prop} (h : mkArr te n cs K) (hlen : cs.length = n * te.size) :
    ∃ o, K o ∧ o ≠ .dead ∧ (∃ sz, o.info = some (sz, n) ∧ sz = te.size) ∧ ∀ (c : Ctx) (k : Nat) (vs : Array Value) (ty : TypeId), c.w.heap[c.ρ k]? = some (.cells vs ty (0, 0)) → RepL c cs vs.toList → RepO c k o := by
  unfold mkArr at h
  split at h
  · rename_i hi
    have hs : te.size = 1 := by
      simp only [isInt, Bool.and_eq_true, beq_iff_eq] at hi; exact hi.2
    obtain ⟨l, hK, rfl⟩ := intsOf_sound h
    simp only [List.length_map, hs, Nat.mul_one] at hlen
    refine ⟨_, hK, by simp, ⟨1, by simp [AO.info, hlen], hs.symm⟩, fun c k vs ty hb hr => ?_⟩
    rw [repO_iarr, repO_flat (by omega)]
    have hsz : vs.size = l.length := by have := hr.1; simpa using this
    refine ⟨vs, ty, hb, fun e he => ?_, hr.2.1, by rw [icells_length]; omega, ?_, fun x hx => ?_⟩
    · obtain ⟨i, hi'⟩ := List.mem_iff_getElem?.1 he
      obtain ⟨x, _, rfl⟩ := icells_get.1 hi'
      rfl
    · rw [flat_icells, icells_length, List.take_of_length_le (by simp; omega)]
      exact hr
    · rw [flat_icells] at hx
      obtain ⟨y, _, rfl⟩ := List.mem_map.1 hx
      rfl
  · obtain ⟨hp, hK⟩ := h
    obtain ⟨h1, h2, h3⟩ := chunks_spec (sz := te.size) n cs hlen
    refine ⟨_, hK, by simp, ⟨te.size, by simp [AO.info, h1], rfl⟩, fun c k vs ty hb hr => ?_⟩
    rw [repO_flat hpos]
    have hsz : vs.size = cs.length := by have := hr.1; simpa using this
    refine ⟨vs, ty, hb, h2, hr.2.1, by rw [h1]; omega, ?_, fun x hx => ?_⟩
    · rw [h3, h1, List.take_of_length_le (by simp; omega)]
      exact hr
    · rw [h3] at hx
      exact List.all_eq_true.1 hp x hx
end Go.Vc
