/-
What it means that the slots and the world of a running call are described by an abstract state, and the steps that keep it.
No conditions.
-/
import Derived.Test.YtgfpcjomgmdapaaVcBase
namespace Go.Vc

/-- A row of objects that are only read; 'pin': the first one is this global variable. -/
structure Fam where
  pin : Option Nat
  objs : List (List AV)

structure FS where
  env : Nat → AV
  H : Nat → AO
  F : List Fam

structure Entry where
  w0 : World
  ok0 : Nat → Prop
  Z : Nat → Prop
  n0 : Nat
  ρ0 : Nat → Nat
  c0 : Nat → Prop
  A0 : FA
  fx : Bool := false
  pins : List (Nat × Obj) := []

abbrev alive (H : Nat → AO) (k : Nat) : Prop := H k ≠ .dead

def okOf (E : Entry) (H : Nat → AO) (w : World) (ρ : Nat → Nat) (b : Nat) : Prop := E.ok0 b ∨ (E.w0.heap.size ≤ b ∧ b < w.heap.size ∧ ∀ k, alive H k → ρ k ≠ b)

abbrev ctxOf (E : Entry) (H : Nat → AO) (w : World) (ρ : Nat → Nat) (A : FA) : Ctx := ⟨w, okOf E H w ρ, E.Z, ρ, A, H⟩

def RepFam (c : Ctx) (f : Nat) (F : Fam) : Prop :=
  (∀ (i : Nat) cs, F.objs[i]? = some cs → c.ok (c.A.at_ f i) ∧ ∃ vf : Nat → Value, ∀ (j : Nat) a, cs[j]? = some a → c.w.cell? ⟨c.A.at_ f i, j, none⟩ = some (vf j) ∧ pureB a = true ∧ (vf j).oneCell' = true ∧ RepV c a (vf j)) ∧
  (∀ i j, i < F.objs.length → j < F.objs.length → c.A.at_ f i = c.A.at_ f j → i = j) ∧
  ∀ g, F.pin = some g → c.A.at_ f 0 = g ∧ ∀ cs, F.objs[0]? = some cs → ∃ vs T fr, c.w.heap[g]? = some (.cells vs T fr) ∧ vs.size = cs.length
def pinOf : List Fam → Nat → Option (List AV)
  | [], _ => none
  | ⟨none, _⟩ :: r, g => pinOf r g
  | ⟨some p, o⟩ :: r, g => if p = g then (match o with
    | [] => none
    | cs :: _ => some cs) else pinOf r g
theorem pinOf_out : ∀ {F : List Fam} {g : Nat} {cs : List AV}, pinOf F g = some cs → ∃ (f : Nat) (fam : Fam), F[f]? = some fam ∧ fam.pin = some g ∧ fam.objs[0]? = some cs
  | [], _, _, h => by cases h
  | ⟨none, o⟩ :: r, g, cs, h => by
    obtain ⟨f, fam, h1, h2⟩ := pinOf_out (F := r) h
    exact ⟨f + 1, fam, by simpa using h1, h2⟩
  | ⟨some p, o⟩ :: r, g, cs, h => by
    unfold pinOf at h
    split at h
    · rename_i e
      subst e
      cases o with
      | nil => cases h
      | cons x t => cases h; exact ⟨0, _, rfl, rfl, rfl⟩
    · obtain ⟨f, fam, h1, h2⟩ := pinOf_out (F := r) h
      exact ⟨f + 1, fam, by simpa using h1, h2⟩

/-- The part that does not speak of the slots. -/
structure SatW (E : Entry) (H : Nat → AO) (F : List Fam) (w : World) (ρ : Nat → Nat) (A : FA) : Prop where
  os : w.os = E.w0.os
  tape : w.tape = E.w0.tape
  output : w.output = E.w0.output
  size : E.w0.heap.size ≤ w.heap.size
  frame : ∀ b, b < E.w0.heap.size → (∀ i, i < E.n0 → b ≠ E.ρ0 i) → w.heap[b]? = E.w0.heap[b]?
  okB : ∀ b, E.ok0 b → b < E.w0.heap.size ∧ ∀ i, i < E.n0 → b ≠ E.ρ0 i
  zB : ∀ b, E.Z b → b < E.w0.heap.size ∧ ∀ i, i < E.n0 → b ≠ E.ρ0 i
  place : ∀ k, alive H k → ρ k < w.heap.size ∧ (E.w0.heap.size ≤ ρ k ∨ (k < E.n0 ∧ ρ k = E.ρ0 k))
  inj : ∀ k k', alive H k → alive H k' → ρ k = ρ k' → k = k'
  stay : ∀ k cs, k < E.n0 → H k = .cells cs → E.c0 k ∧ ρ k = E.ρ0 k
  fix : E.fx = true → ∀ k, k < E.n0 → alive H k → ρ k = E.ρ0 k
  grow : E.fx = true → ∀ k, k < E.n0 → ∀ vs T fr, E.w0.heap[E.ρ0 k]? = some (.cells vs T fr) → ∃ vs' T' fr', w.heap[E.ρ0 k]? = some (.cells vs' T' fr') ∧ vs.size ≤ vs'.size
  pins : ∀ p ∈ E.pins, E.ok0 p.1 ∧ w.heap[p.1]? = some p.2
  obj : ∀ k, RepO (ctxOf E H w ρ A) k (H k)
  fl : F.length = A.n
  nf : E.A0.n ≤ A.n
  A0 : ∀ f, f < E.A0.n → A.at_ f = E.A0.at_ f
  fam : ∀ (f : Nat) fam, F[f]? = some fam → RepFam (ctxOf E H w ρ A) f fam

/-- The marks that loops over functions leave among the deferred calls: none of them holds a call. -/
def MarkOk (lo : Nat) (c : Ctx) (ds : List Deferred) : Prop := ds.Nodup ∧ ∀ d ∈ ds, ∃ D, d = { target := .collected D, args := #[] } ∧ lo ≤ D ∧ c.ok D ∧ c.w.heap[D]? = some (.deferred (some []))
theorem MarkOk.nil {lo : Nat} {c : Ctx} : MarkOk lo c [] := ⟨by simp, by simp⟩
theorem MarkOk.move {lo : Nat} {c c' : Ctx} (hk : Keeps c c') {ds : List Deferred} (h : MarkOk lo c ds) : MarkOk lo c' ds :=
  ⟨h.1, fun d hd => let ⟨D, h1, h0, h2, h3⟩ := h.2 d hd; ⟨D, h1, h0, hk.ok _ h2, (hk.okw _ h2).trans h3⟩⟩

structure Sat (E : Entry) (S : FS) (tm : Nat) (a : Act) (w : World) (ρ : Nat → Nat) (A : FA) : Prop extends SatW E S.H S.F w ρ A where
  env : ∀ t, RepV (ctxOf E S.H w ρ A) (S.env t) (a.tmps.getD t undef)
  tsize : a.tmps.size = tm
  defers : MarkOk E.w0.heap.size (ctxOf E S.H w ρ A) a.defers

variable {E : Entry} {H : Nat → AO} {F : List Fam} {w : World} {ρ : Nat → Nat} {A : FA}

theorem SatW.ok_lt (h : SatW E H F w ρ A) {b : Nat} (hb : okOf E H w ρ b) : b < w.heap.size := by
  rcases hb with hb | hb
  · exact Nat.lt_of_lt_of_le (h.okB b hb).1 h.size
  · exact hb.2.1
theorem SatW.ok_ne (h : SatW E H F w ρ A) {b k : Nat} (hb : okOf E H w ρ b) (hk : alive H k) : ρ k ≠ b := by
  rcases hb with hb | hb
  · have h1 := h.okB b hb
    rcases (h.place k hk).2 with h2 | h2
    · omega
    · intro e; exact h1.2 k h2.1 (by omega)
  · exact hb.2.2 k hk
theorem SatW.z_ne (h : SatW E H F w ρ A) {b k : Nat} (hb : E.Z b) (hk : alive H k) : ρ k ≠ b := by
  have h1 := h.zB b hb
  rcases (h.place k hk).2 with h2 | h2
  · omega
  · intro e; exact h1.2 k h2.1 (by omega)
theorem SatW.z_lt (h : SatW E H F w ρ A) {b : Nat} (hb : E.Z b) : b < w.heap.size := Nat.lt_of_lt_of_le (h.zB b hb).1 h.size

theorem SatW.fam_lt (h : SatW E H F w ρ A) {f : Nat} {fam : Fam} (hf : F[f]? = some fam) : f < A.n := by
  have := (List.getElem?_eq_some_iff.1 hf).1
  have h2 := h.fl
  omega

/-- References to k become unknown. -/
def killF (k : Nat) (r : AV) : AV := if refOf r = some k then .any else r
def mapO (f : AV → AV) : AO → AO
  | .cells cs => .cells (cs.map (mapC f))
  | o => o
def setH (H : Nat → AO) (k : Nat) (o : AO) : Nat → AO := fun i => if i = k then o else H i
def setρ (ρ : Nat → Nat) (k b : Nat) : Nat → Nat := fun i => if i = k then b else ρ i

theorem mapO_dead {f : AV → AV} {o : AO} : mapO f o = .dead ↔ o = .dead := by cases o <;> simp [mapO]
theorem mapO_info {f : AV → AV} {o : AO} : (mapO f o).info = o.info := by cases o <;> simp [mapO, AO.info]

/-- The general step: object k gets the description o in block b; the references to it are turned by f, the others stay.
    'm' says whether the map is laid at all (false: every slot and object stays as it is written). -/
structure StepOk (E : Entry) (H : Nat → AO) (w : World) (ρ : Nat → Nat) (A : FA) (k : Nat) (o : AO) (b : Nat) (w' : World) (H' : Nat → AO) : Prop where
  os : w'.os = w.os
  tape : w'.tape = w.tape
  output : w'.output = w.output
  size : w.heap.size ≤ w'.heap.size
  same : ∀ b', b' < w.heap.size → (alive H k → b' ≠ ρ k) → w'.heap[b']? = w.heap[b']?
  here : o ≠ .dead → b < w'.heap.size ∧ ((alive H k ∧ b = ρ k) ∨ w.heap.size ≤ b)
  keep : ∀ i, i ≠ k → (alive H' i ↔ alive H i)
  at_ : H' k = o
  stay : ∀ cs, o = .cells cs → k < E.n0 → b = ρ k ∧ ∃ cs', H k = .cells cs'
  fix : E.fx = true → k < E.n0 → o ≠ .dead → b = ρ k ∧ alive H k
  grow : E.fx = true → k < E.n0 → alive H k → ∀ vs T fr, w.heap[ρ k]? = some (.cells vs T fr) → ∃ vs' T' fr', w'.heap[ρ k]? = some (.cells vs' T' fr') ∧ vs.size ≤ vs'.size

theorem StepOk.fixK {k : Nat} {o : AO} {b : Nat} {w' : World} {H' : Nat → AO} (h : SatW E H F w ρ A) (s : StepOk E H w ρ A k o b w' H') :
    E.fx = true → ∀ i, i < E.n0 → alive H' i → setρ ρ k b i = E.ρ0 i := by
  intro hfx i hi ha
  by_cases e : i = k
  · subst e
    obtain ⟨h1, h2⟩ := s.fix hfx hi (by rw [← s.at_]; exact ha)
    simp only [setρ, if_true]
    rw [h1]; exact h.fix hfx _ hi h2
  · simp only [setρ, if_neg e]
    exact h.fix hfx i hi ((s.keep i e).1 ha)
theorem StepOk.growK {k : Nat} {o : AO} {b : Nat} {w' : World} {H' : Nat → AO} (h : SatW E H F w ρ A) (s : StepOk E H w ρ A k o b w' H') :
    E.fx = true → ∀ i, i < E.n0 → ∀ vs T fr, E.w0.heap[E.ρ0 i]? = some (.cells vs T fr) → ∃ vs' T' fr', w'.heap[E.ρ0 i]? = some (.cells vs' T' fr') ∧ vs.size ≤ vs'.size := by
  intro hfx i hi vs T fr h0
  obtain ⟨vs1, T1, fr1, h1, h2⟩ := h.grow hfx i hi vs T fr h0
  have hlt0 : E.ρ0 i < E.w0.heap.size := (Array.getElem?_eq_some_iff.1 h0).1
  have hlt : E.ρ0 i < w.heap.size := (Array.getElem?_eq_some_iff.1 h1).1
  by_cases hk : alive H k ∧ E.ρ0 i = ρ k
  · have hkn : k < E.n0 := by
      rcases (h.place k hk.1).2 with h3 | h3
      · omega
      · exact h3.1
    obtain ⟨vs2, T2, fr2, h3, h4⟩ := s.grow hfx hkn hk.1 vs1 T1 fr1 (hk.2 ▸ h1)
    exact ⟨vs2, T2, fr2, by rw [hk.2]; exact h3, Nat.le_trans h2 h4⟩
  · exact ⟨vs1, T1, fr1, (s.same _ hlt fun ha e => hk ⟨ha, e⟩).trans h1, h2⟩

theorem StepOk.keeps (h : SatW E H F w ρ A) {k : Nat} {o : AO} {b : Nat} {w' : World} {H' : Nat → AO} (s : StepOk E H w ρ A k o b w' H') :
    Keeps (ctxOf E H w ρ A) (ctxOf E H' w' (setρ ρ k b) A) where
  ok b' hb := by
    have hlt := h.ok_lt hb
    rcases hb with hb | hb
    · exact .inl hb
    · refine .inr ⟨hb.1, Nat.lt_of_lt_of_le hb.2.1 s.size, fun i hi => ?_⟩
      by_cases e : i = k
      · subst e
        simp only [setρ, if_true]
        have hne : o ≠ .dead := by rw [← s.at_]; exact hi
        rcases (s.here hne).2 with h1 | h1
        · rw [h1.2]; exact hb.2.2 _ h1.1
        · omega
      · simp only [setρ, if_neg e]
        exact hb.2.2 i ((s.keep i e).1 hi)
  okw b' hb := s.same b' (h.ok_lt hb) fun hk => (h.ok_ne hb hk).symm
  Z _ hb := hb
  Zw b' hb := s.same b' (h.z_lt hb) fun hk => (h.z_ne hb hk).symm
  A := ⟨Nat.le_refl _, fun _ _ => rfl⟩

theorem RepFam.move {c c' : Ctx} (hk : Keeps c c') {f : Nat} (hf : f < c.A.n) {F : Fam} (h : RepFam c f F) : RepFam c' f F := by
  have hA := hk.A.2 f hf
  refine ⟨fun i cs hi => ?_, by rw [hA]; exact h.2.1, fun g hg => ?_⟩
  rotate_left
  · obtain ⟨h1, h2⟩ := h.2.2 g hg
    refine ⟨by rw [hA]; exact h1, fun cs hcs => ?_⟩
    obtain ⟨vs, T, fr, h3, h4⟩ := h2 cs hcs
    have hok := (h.1 0 cs hcs).1
    rw [h1] at hok
    exact ⟨vs, T, fr, (hk.okw _ hok).trans h3, h4⟩
  obtain ⟨hok, vf, hv⟩ := h.1 i cs hi
  rw [hA]
  refine ⟨hk.ok _ hok, vf, fun j a hj => ?_⟩
  obtain ⟨h1, h2, h3, h4⟩ := hv j a hj
  exact ⟨(World.cell?_of_block (w := c.w) (hk.okw _ hok)).trans h1, h2, h3, h4.pure_move hk (pureA_of_pureB h2)⟩

/-- A block's description in the new world, its references turned by f. -/
theorem RepO.move {c c' : Ctx} (hk : Keeps c c') (f : AV → AV) (hf : ∀ r v, isRef r = true → RepV c r v → RepV c' (f r) v) {k k' : Nat} (hw : c'.w.heap[c'.ρ k']? = c.w.heap[c.ρ k]?) {o : AO} (h : RepO c k o) : RepO c' k' (mapO f o) := by
  cases o with
  | dead => trivial
  | cells cs =>
    obtain ⟨vs, T, h1, h2, h3, h4⟩ := h
    refine ⟨vs, T, hw.trans h1, by simpa using h2, h3, fun j a v ha hv => ?_⟩
    rw [List.getElem?_map] at ha
    obtain ⟨a0, ha0, rfl⟩ := Option.map_eq_some_iff.1 ha
    exact mapC_move hk f hf (h3 v (by simpa using (Array.mem_of_getElem? hv))) (h4 j a0 v ha0 hv)
  | iarr l =>
    obtain ⟨vs, T, h1, h2, h3, h4⟩ := h
    exact ⟨vs, T, hw.trans h1, h2, h3, fun i e j a v hi hj hv => ⟨(h4 i e j a v hi hj hv).1.pure_move hk (pureA_of_pureB (h4 i e j a v hi hj hv).2), (h4 i e j a v hi hj hv).2⟩⟩
  | arr sz l =>
    obtain ⟨vs, T, h1, h2, h3, h5, h4⟩ := h
    exact ⟨vs, T, hw.trans h1, h2, h3, h5, fun i e j a v hi hj hv => ⟨(h4 i e j a v hi hj hv).1.pure_move hk (pureA_of_pureB (h4 i e j a v hi hj hv).2), (h4 i e j a v hi hj hv).2⟩⟩
theorem RepO.stay {c c' : Ctx} (hk : Keeps c c') (hf : ∀ r v, isRef r = true → RepV c r v → RepV c' r v) {k : Nat} (hw : c'.w.heap[c'.ρ k]? = c.w.heap[c.ρ k]?) {o : AO} (h : RepO c k o) : RepO c' k o := by
  cases o with
  | dead => trivial
  | cells cs =>
    obtain ⟨vs, T, h1, h2, h3, h4⟩ := h
    exact ⟨vs, T, hw.trans h1, h2, h3, fun j a v ha hv => (h4 j a v ha hv).stay hk hf⟩
  | iarr l =>
    obtain ⟨vs, T, h1, h2, h3, h4⟩ := h
    exact ⟨vs, T, hw.trans h1, h2, h3, fun i e j a v hi hj hv => ⟨(h4 i e j a v hi hj hv).1.stay hk hf, (h4 i e j a v hi hj hv).2⟩⟩
  | arr sz l =>
    obtain ⟨vs, T, h1, h2, h3, h5, h4⟩ := h
    exact ⟨vs, T, hw.trans h1, h2, h3, h5, fun i e j a v hi hj hv => ⟨(h4 i e j a v hi hj hv).1.stay hk hf, (h4 i e j a v hi hj hv).2⟩⟩

theorem RepO.alive_of {c : Ctx} {r : AV} {v : Value} (hr : isRef r = true) (h : RepV c r v) : ∃ k, refOf r = some k ∧ c.H k ≠ .dead := by
  cases h <;> simp [isRef] at hr
  case ptr k off cs hk => exact ⟨k, rfl, by rw [hk]; simp⟩
  case el k i off sz n hk hi => exact ⟨k, rfl, by intro e; rw [e] at hk; simp [AO.info] at hk⟩
  case own k sz n cap hk hcap hroom => exact ⟨k, rfl, by intro e; rw [e] at hk; simp [AO.info] at hk⟩
  case sub k sz n lo hi o cap hk h1 h2 hcap hroom ho => exact ⟨k, rfl, by intro e; rw [e] at hk; simp [AO.info] at hk⟩
  case win k off n cap cs hk hcap hroom => exact ⟨k, rfl, by rw [hk]; simp⟩
  case clo f k cs hk => exact ⟨k, rfl, by rw [hk]; simp⟩

/-- A reference to an object that did not change. -/
theorem RepV.ref_other {c c' : Ctx} {r : AV} {v : Value} {k : Nat} (hr : refOf r = some k) (h : RepV c r v) (hρ : c'.ρ k = c.ρ k) (hi : (c'.H k).info = (c.H k).info)
    (hcell : ∀ cs, c.H k = .cells cs → ∃ cs', c'.H k = .cells cs')
    (hw : ∀ vs T fr, c.w.heap[c.ρ k]? = some (.cells vs T fr) → ∃ vs' T' fr', c'.w.heap[c.ρ k]? = some (.cells vs' T' fr') ∧ vs.size ≤ vs'.size) : RepV c' r v := by
  have hroom : ∀ n, c.room k n → c'.room k n := by
    rintro n ⟨vs, T, fr, h1, h2⟩
    obtain ⟨vs', T', fr', h3, h4⟩ := hw vs T fr h1
    exact ⟨vs', T', fr', by rw [hρ]; exact h3, by omega⟩
  cases h <;> simp [refOf] at hr
  case ptr k' off cs hk =>
    subst hr
    obtain ⟨cs', hcs⟩ := hcell cs hk
    rw [← hρ]; exact .ptr k' off cs' hcs
  case el k' i off sz n hk hi' => subst hr; rw [← hρ]; exact .el k' i off sz n (hi.trans hk) hi'
  case own k' sz n cap hk hcap hro => subst hr; rw [← hρ]; exact .own k' sz n cap (hi.trans hk) hcap (hroom _ hro)
  case sub k' sz n lo hi' o cap hk h1 h2 hcap hro ho => subst hr; rw [← hρ]; exact .sub k' sz n lo hi' o cap (hi.trans hk) h1 h2 hcap (hroom _ hro) ho
  case win k' off n cap cs hk hcap hro =>
    subst hr
    obtain ⟨cs', hcs⟩ := hcell cs hk
    rw [← hρ]; exact .win k' off n cap cs' hcs hcap (hroom _ hro)
  case clo f k' cs hk =>
    subst hr
    obtain ⟨cs', hcs⟩ := hcell cs hk
    rw [← hρ]; exact .clo f k' cs' hcs

/-- The step without a map. -/
theorem Sat.step {S : FS} {tm : Nat} {a : Act} (h : Sat E S tm a w ρ A) {k : Nat} {o : AO} {b : Nat} {w' : World} (s : StepOk E S.H w ρ A k o b w' (setH S.H k o))
    (hobj : (∀ r v, isRef r = true → RepV (ctxOf E S.H w ρ A) r v → RepV (ctxOf E (setH S.H k o) w' (setρ ρ k b) A) r v) → RepO (ctxOf E (setH S.H k o) w' (setρ ρ k b) A) k o)
    (hk : ∀ r v, refOf r = some k → RepV (ctxOf E S.H w ρ A) r v → RepV (ctxOf E (setH S.H k o) w' (setρ ρ k b) A) r v) :
    Sat E ⟨S.env, setH S.H k o, S.F⟩ tm a w' (setρ ρ k b) A := by
  have kp := s.keeps h.toSatW
  have hother : ∀ i, i ≠ k → alive S.H i → w'.heap[ρ i]? = w.heap[ρ i]? := fun i hi ha => s.same _ (h.place i ha).1 fun hk' e => hi (h.inj i k ha hk' e)
  have href : ∀ r v, isRef r = true → RepV (ctxOf E S.H w ρ A) r v → RepV (ctxOf E (setH S.H k o) w' (setρ ρ k b) A) r v := by
    intro r v hr hv
    obtain ⟨i, hi, ha⟩ := RepO.alive_of hr hv
    by_cases e : i = k
    · subst e; exact hk r v hi hv
    · refine hv.ref_other hi (by simp [setρ, e]) (by simp [setH, e]) (fun cs hcs => ⟨cs, by simpa [setH, e] using hcs⟩) fun vs T fr hb => ⟨vs, T, fr, ?_, Nat.le_refl _⟩
      show w'.heap[ρ i]? = _
      rw [hother i e ha]; exact hb
  refine { os := s.os.trans h.os, tape := s.tape.trans h.tape, output := s.output.trans h.output, size := Nat.le_trans h.size s.size, okB := h.okB, zB := h.zB, fl := h.fl, nf := h.nf, A0 := h.A0, tsize := h.tsize, defers := h.defers.move kp, fix := s.fixK h.toSatW, grow := s.growK h.toSatW, pins := fun p hp => ⟨(h.pins p hp).1, (kp.okw _ (.inl (h.pins p hp).1)).trans (h.pins p hp).2⟩,
           frame := ?_, place := ?_, inj := ?_, stay := ?_, obj := ?_, fam := fun f fam hf => (h.fam f fam hf).move kp (h.fam_lt hf), env := fun t => (h.env t).stay kp href }
  · intro b' hb' hn
    rw [s.same b' (Nat.lt_of_lt_of_le hb' h.size) ?_]
    · exact h.frame b' hb' hn
    · intro hk'
      rcases (h.place k hk').2 with h2 | h2
      · omega
      · intro e; exact hn k h2.1 (by omega)
  · intro i hi
    by_cases e : i = k
    · subst e
      have hne : o ≠ .dead := by simpa [alive, setH] using hi
      have := s.here hne
      simp only [setρ, if_true]
      refine ⟨this.1, ?_⟩
      rcases this.2 with h1 | h1
      · rw [h1.2]; exact (h.place i h1.1).2
      · exact .inl (Nat.le_trans h.size h1)
    · have ha : alive S.H i := by simpa [alive, setH, e] using hi
      simp only [setρ, if_neg e]
      exact ⟨Nat.lt_of_lt_of_le (h.place i ha).1 s.size, (h.place i ha).2⟩
  · intro i j hi hj hij
    by_cases e : i = k
    · by_cases e' : j = k
      · rw [e, e']
      · have ha : alive S.H j := by simpa [alive, setH, e'] using hj
        have hne : o ≠ .dead := by subst e; simpa [alive, setH] using hi
        simp only [setρ, if_pos e, if_neg e'] at hij
        rcases (s.here hne).2 with h1 | h1
        · rw [h1.2] at hij
          rw [e]; exact h.inj k j h1.1 ha hij
        · have := (h.place j ha).1; omega
    · have hai : alive S.H i := by simpa [alive, setH, e] using hi
      by_cases e' : j = k
      · have hne : o ≠ .dead := by subst e'; simpa [alive, setH] using hj
        simp only [setρ, if_neg e, if_pos e'] at hij
        rcases (s.here hne).2 with h1 | h1
        · rw [h1.2] at hij
          rw [e']; exact h.inj i k hai h1.1 hij
        · have := (h.place i hai).1; omega
      · have haj : alive S.H j := by simpa [alive, setH, e'] using hj
        simp only [setρ, if_neg e, if_neg e'] at hij
        exact h.inj i j hai haj hij
  · intro i cs hi hcs
    by_cases e : i = k
    · subst e
      simp only [setH, if_true] at hcs
      obtain ⟨h1, cs', h2⟩ := s.stay cs hcs hi
      simp only [setρ, if_true]
      rw [h1]
      exact h.stay i cs' hi h2
    · simp only [setH, if_neg e] at hcs
      simp only [setρ, if_neg e]
      exact h.stay i cs hi hcs
  · intro i
    by_cases e : i = k
    · subst e; simp only [setH, if_true]; exact hobj href
    · simp only [setH, if_neg e]
      by_cases ha : alive S.H i
      · refine (h.obj i).stay kp href ?_
        show w'.heap[setρ ρ k b i]? = w.heap[ρ i]?
        simp only [setρ, if_neg e]
        exact hother i e ha
      · have hd : S.H i = .dead := Classical.byContradiction ha
        rw [hd]; trivial

def mapH (f : AV → AV) (H : Nat → AO) (k : Nat) (o : AO) : Nat → AO := fun i => if i = k then o else mapO f (H i)

/-- The step with a map. -/
theorem Sat.stepMap {S : FS} {tm : Nat} {a : Act} (h : Sat E S tm a w ρ A) (f : AV → AV) {k : Nat} {o : AO} {b : Nat} {w' : World} (s : StepOk E S.H w ρ A k o b w' (mapH f S.H k o))
    (hne : ∀ r, refOf r ≠ some k → f r = r)
    (hobj : RepO (ctxOf E (mapH f S.H k o) w' (setρ ρ k b) A) k o)
    (hk : ∀ r v, refOf r = some k → RepV (ctxOf E S.H w ρ A) r v → RepV (ctxOf E (mapH f S.H k o) w' (setρ ρ k b) A) (f r) v) :
    Sat E ⟨fun t => mapR f (S.env t), mapH f S.H k o, S.F⟩ tm a w' (setρ ρ k b) A := by
  have kp := s.keeps h.toSatW
  have hother : ∀ i, i ≠ k → alive S.H i → w'.heap[ρ i]? = w.heap[ρ i]? := fun i hi ha => s.same _ (h.place i ha).1 fun hk' e => hi (h.inj i k ha hk' e)
  have hal : ∀ i, i ≠ k → (alive (mapH f S.H k o) i ↔ alive S.H i) := by
    intro i hi
    simp [alive, mapH, hi, mapO_dead]
  have href : ∀ r v, isRef r = true → RepV (ctxOf E S.H w ρ A) r v → RepV (ctxOf E (mapH f S.H k o) w' (setρ ρ k b) A) (f r) v := by
    intro r v hr hv
    obtain ⟨i, hi, ha⟩ := RepO.alive_of hr hv
    by_cases e : i = k
    · subst e; exact hk r v hi hv
    · rw [hne r (by rw [hi]; simpa using e)]
      refine hv.ref_other hi (by simp [setρ, e]) (by simp [mapH, e, mapO_info]) (fun cs hcs => ⟨cs.map (mapC f), ?_⟩) fun vs T fr hb => ⟨vs, T, fr, ?_, Nat.le_refl _⟩
      · have hcs' : S.H i = .cells cs := hcs
        simp [mapH, e, hcs', mapO]
      · show w'.heap[ρ i]? = _
        rw [hother i e ha]; exact hb
  refine { os := s.os.trans h.os, tape := s.tape.trans h.tape, output := s.output.trans h.output, size := Nat.le_trans h.size s.size, okB := h.okB, zB := h.zB, fl := h.fl, nf := h.nf, A0 := h.A0, tsize := h.tsize, defers := h.defers.move kp, fix := s.fixK h.toSatW, grow := s.growK h.toSatW, pins := fun p hp => ⟨(h.pins p hp).1, (kp.okw _ (.inl (h.pins p hp).1)).trans (h.pins p hp).2⟩,
           frame := ?_, place := ?_, inj := ?_, stay := ?_, obj := ?_, fam := fun f fam hf => (h.fam f fam hf).move kp (h.fam_lt hf), env := fun t => (h.env t).move kp f href }
  · intro b' hb' hn
    rw [s.same b' (Nat.lt_of_lt_of_le hb' h.size) ?_]
    · exact h.frame b' hb' hn
    · intro hk'
      rcases (h.place k hk').2 with h2 | h2
      · omega
      · intro e; exact hn k h2.1 (by omega)
  · intro i hi
    by_cases e : i = k
    · subst e
      have hne : o ≠ .dead := by simpa [alive, mapH] using hi
      have := s.here hne
      simp only [setρ, if_true]
      refine ⟨this.1, ?_⟩
      rcases this.2 with h1 | h1
      · rw [h1.2]; exact (h.place i h1.1).2
      · exact .inl (Nat.le_trans h.size h1)
    · have ha : alive S.H i := (hal i e).1 hi
      simp only [setρ, if_neg e]
      exact ⟨Nat.lt_of_lt_of_le (h.place i ha).1 s.size, (h.place i ha).2⟩
  · intro i j hi hj hij
    by_cases e : i = k
    · by_cases e' : j = k
      · rw [e, e']
      · have ha : alive S.H j := (hal j e').1 hj
        have hne : o ≠ .dead := by subst e; simpa [alive, mapH] using hi
        simp only [setρ, if_pos e, if_neg e'] at hij
        rcases (s.here hne).2 with h1 | h1
        · rw [h1.2] at hij
          rw [e]; exact h.inj k j h1.1 ha hij
        · have := (h.place j ha).1; omega
    · have hai : alive S.H i := (hal i e).1 hi
      by_cases e' : j = k
      · have hne : o ≠ .dead := by subst e'; simpa [alive, mapH] using hj
        simp only [setρ, if_neg e, if_pos e'] at hij
        rcases (s.here hne).2 with h1 | h1
        · rw [h1.2] at hij
          rw [e']; exact h.inj i k hai h1.1 hij
        · have := (h.place i hai).1; omega
      · have haj : alive S.H j := (hal j e').1 hj
        simp only [setρ, if_neg e, if_neg e'] at hij
        exact h.inj i j hai haj hij
  · intro i cs hi hcs
    by_cases e : i = k
    · subst e
      simp only [mapH, if_true] at hcs
      obtain ⟨h1, cs', h2⟩ := s.stay cs hcs hi
      simp only [setρ, if_true]
      rw [h1]
      exact h.stay i cs' hi h2
    · simp only [mapH, if_neg e] at hcs
      simp only [setρ, if_neg e]
      cases hH : S.H i with
      | cells cs' => exact h.stay i cs' hi hH
      | dead => rw [hH] at hcs; simp [mapO] at hcs
      | iarr l => rw [hH] at hcs; simp [mapO] at hcs
      | arr sz l => rw [hH] at hcs; simp [mapO] at hcs
  · intro i
    by_cases e : i = k
    · subst e; simp only [mapH, if_true]; exact hobj
    · simp only [mapH, if_neg e]
      by_cases ha : alive S.H i
      · refine (h.obj i).move kp f href ?_
        show w'.heap[setρ ρ k b i]? = w.heap[ρ i]?
        simp only [setρ, if_neg e]
        exact hother i e ha
      · have hd : S.H i = .dead := Classical.byContradiction ha
        rw [hd]; trivial

/-- A draw changes nothing. -/
theorem Sat.drew {S : FS} {tm : Nat} {a : Act} (h : Sat E S tm a w ρ A) : Sat E S tm a w.drew ρ A := by
  have kp : Keeps (ctxOf E S.H w ρ A) (ctxOf E S.H w.drew ρ A) := ⟨fun _ h => h, fun _ _ => rfl, fun _ h => h, fun _ _ => rfl, Nat.le_refl _, fun _ _ => rfl⟩
  have href : ∀ r v, isRef r = true → RepV (ctxOf E S.H w ρ A) r v → RepV (ctxOf E S.H w.drew ρ A) r v := by
    intro r v hr hv
    obtain ⟨k, hk, _⟩ := RepO.alive_of hr hv
    exact hv.ref_other hk rfl rfl (fun cs h => ⟨cs, h⟩) fun vs T fr h => ⟨vs, T, fr, h, Nat.le_refl _⟩
  exact { os := h.os, tape := h.tape, output := h.output, size := h.size, frame := h.frame, okB := h.okB, zB := h.zB, place := h.place, inj := h.inj, stay := h.stay, fix := h.fix, grow := h.grow, pins := h.pins, fl := h.fl, nf := h.nf, A0 := h.A0, tsize := h.tsize, defers := h.defers.move kp,
          obj := fun k => (h.obj k).stay kp href rfl, fam := fun f fam hf => (h.fam f fam hf).move kp (h.fam_lt hf), env := fun t => (h.env t).stay kp href }

def setE (env : Nat → AV) (tm : Nat) (d : Option Tmp) (x : AV) : Nat → AV := fun t => if some t = d ∧ t < tm then x else env t

theorem eval_put {a : Act} {d : Option Tmp} {v : Value} (t : Nat) : (a.put d v).tmps.getD t undef = if some t = d ∧ t < a.tmps.size then v else a.tmps.getD t undef := by
  cases d with
  | none => simp [Act.put]
  | some d =>
    simp only [Act.put, Option.some.injEq, Array.getD_eq_getD_getElem?, Array.getElem?_setIfInBounds]
    by_cases e : t = d
    · subst e
      by_cases hl : t < a.tmps.size <;> simp [hl]
    · have e' : ¬ d = t := fun h => e h.symm
      simp [e, e']

/-- A slot is written. -/
theorem Sat.put {S : FS} {tm : Nat} {a : Act} (h : Sat E S tm a w ρ A) (d : Option Tmp) {x : AV} {v : Value} (hv : RepV (ctxOf E S.H w ρ A) x v) : Sat E ⟨setE S.env tm d x, S.H, S.F⟩ tm (a.put d v) w ρ A := by
  have hts : (a.put d v).tmps.size = a.tmps.size := by cases d <;> simp [Act.put]
  have hdf : (a.put d v).defers = a.defers := by cases d <;> simp [Act.put]
  refine { h.toSatW with env := fun t => ?_, tsize := hts.trans h.tsize, defers := by rw [hdf]; exact h.defers }
  rw [eval_put, h.tsize]
  simp only [setE]
  split
  · exact hv
  · exact h.env t
end Go.Vc
