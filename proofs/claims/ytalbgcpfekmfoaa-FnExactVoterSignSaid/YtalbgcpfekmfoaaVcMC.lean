/-
Contracts of functions over abstract values, and what a call leaves in the caller.
A call that writes objects of the caller's where they lie, and leaves their sizes: every reference of the caller's stays good.
No conditions.
-/
import Derived.Test.YtalbgcpfekmfoaaVcMB
namespace Go.Vc
variable {P : Program} {T : TT} {E : Entry} {w : World} {ρ : Nat → Nat} {A : FA} {S : FS} {tm : Nat} {a : Act}

def listH (hs : List AO) : Nat → AO := fun i => hs.getD i .dead

/-- No part of the value lies in memory that is only read. -/
def roFreeC : AV → Bool
  | .any | .val _ | .bytes _ | .zsl _ _ | .ptr _ _ | .el _ _ _ | .own _ | .sub _ _ _ | .clo _ _ | .ifp _ _ _ | .rp _ _ _ => true
  | _ => false
def roFree : AV → Bool
  | .agg cs => cs.all roFreeC
  | .tup cs => cs.all fun a => match a with
    | .agg es => es.all roFreeC
    | a => roFreeC a
  | a => roFreeC a
def roFreeO : AO → Prop
  | .dead | .iarr _ => True
  | .cells cs => cs.all roFreeC = true
  | .arr _ l => ∀ e ∈ l, ∀ c ∈ e, roFreeC c = true

/-- What a function leaves behind. -/
def Ret (E : Entry) (con : Con) (Fs : List Fam) (K : AV → List AO → List Fam → Prop) (e : Ending) (w' : World) : Prop :=
  ∃ v r hs nF ρ A, e = .returned v ∧ K r hs nF ∧ SatW E (listH hs) (Fs ++ nF) w' ρ A ∧ RepV (ctxOf E (listH hs) w' ρ A) r v ∧ E.n0 ≤ hs.length ∧ hs.length ≤ E.n0 + con.nnew ∧
    (con.alias = false → (roFree r = true ∧ ∀ o ∈ hs, roFreeO o) ∧ nF = [])

/-- The function keeps its contract. -/
def Keeps' (P : Program) (f : FuncId) (con : Con) : Prop :=
  ∀ (E : Entry) (args : List Value) (aargs : List AV) (hs : List AO) (Fs : List Fam) (K : AV → List AO → List Fam → Prop), con.C aargs hs Fs K → args.length = aargs.length → E.n0 = hs.length →
    SatW E (listH hs) Fs E.w0 E.ρ0 E.A0 → (∀ (i : Nat) a v, aargs[i]? = some a → args[i]? = some v → RepV (ctxOf E (listH hs) E.w0 E.ρ0 E.A0) a v) → (E.fx = true → con.mode = 3) →
    Calls P f args.toArray E.w0 (Ret E con Fs K)

def reIdx (i : Nat) : AV → AV
  | .ptr _ o => .ptr i o
  | .el _ j o => .el i j o
  | .own _ => .own i
  | .sub _ p q => .sub i p q
  | .win _ o n => .win i o n
  | .clo f _ => .clo f i
  | .ifp t _ o => .ifp t i o
  | r => r

/-- The reading of a reference to an owned object. -/
def roView (o : AO) (r : AV) : AV :=
  match r, o with
  | .own _, .iarr l => .ints l
  | .own _, .arr sz l => .sl sz l
  | .sub _ p q, .iarr l => .ints ((l.drop p).take (q - p))
  | .sub _ p q, .arr sz l => .sl sz ((l.drop p).take (q - p))
  | .el _ i off, .arr _ l => .ro ((l.getD i []).drop off)
  | .el _ i off, .iarr l => .ro (((icells l).getD i []).drop off)
  | .ptr _ off, .cells cs => .ro ((cs.drop off).map (mapC fun _ => .any))
  | _, _ => .any

theorem arr_sl {c c' : Ctx} {k sz : Nat} {l : List (List AV)} (ho : RepO c k (.arr sz l)) (kp : Keeps c c') (hok : c'.ok (c.ρ k)) (hw : c'.w.heap[c.ρ k]? = c.w.heap[c.ρ k]?) {p q o cap : Nat} (hp : p ≤ q) (hq : q ≤ l.length) (hcap : q - p ≤ cap) (hoff : o = p * sz ∨ q = p) :
    RepV c' (.sl sz ((l.drop p).take (q - p))) (.slice (some ⟨c.ρ k, o, none⟩) (q - p) cap) := by
  by_cases hpq : q = p
  · subst hpq
    simp only [Nat.sub_self, List.take_zero]
    exact .sl0 _ _ _
  · have hoff' : o = p * sz := hoff.resolve_right hpq
    subst hoff'
    obtain ⟨vs, T, h1, h2, h3, h5, h4⟩ := ho
    have hlen : ((l.drop p).take (q - p)).length = q - p := by simp; omega
    have hg : ∀ (i : Nat) e, ((l.drop p).take (q - p))[i]? = some e → l[p + i]? = some e := by
      intro i e hi
      rw [List.getElem?_take] at hi
      split at hi
      · rw [List.getElem?_drop] at hi; exact hi
      · cases hi
    have hat : ∀ (i : Nat) e (j : Nat) a, l[i]? = some e → e[j]? = some a → ∃ v, vs[i * sz + j]? = some v ∧ v.oneCell' = true ∧ RepV c a v ∧ pureB a = true := by
      intro i e j a hi hj
      have hjl : j < sz := by rw [← h5 i e hi]; exact (List.getElem?_eq_some_iff.1 hj).1
      have hil : i < l.length := (List.getElem?_eq_some_iff.1 hi).1
      have hm : i * sz + sz ≤ l.length * sz := by
        have := Nat.mul_le_mul_right sz (show i + 1 ≤ l.length by omega)
        rw [Nat.add_mul, Nat.one_mul] at this; exact this
      have hlt : i * sz + j < vs.size := by omega
      have := h4 i e j a _ hi hj (Array.getElem?_eq_getElem hlt)
      exact ⟨_, Array.getElem?_eq_getElem hlt, h3 _ (by simp), this.1, this.2⟩
    have key := RepV.sl (c := c') sz ((l.drop p).take (q - p)) (c.ρ k) (p * sz) cap (fun i j => vs.toList.getD ((p + i) * sz + j) undef) hok (by rw [hlen]; exact hcap) (fun i e hi => h5 _ e (hg i e hi))
      (fun i e j a hi hj => by
        obtain ⟨v, hv, h1v, hr, hp⟩ := hat _ e j a (hg i e hi) hj
        have hv' : vs.toList.getD ((p + i) * sz + j) undef = v := by simp [List.getD, hv]
        refine ⟨?_, hp, by rw [hv']; exact h1v⟩
        rw [hv']
        have e1 : p * sz + i * sz + j = (p + i) * sz + j := by rw [Nat.add_mul]
        rw [e1, cell_of_row c'.w _ _ vs T (0, 0) (hw.trans h1)]
        exact hv)
      (fun i e j a hi hj => by
        obtain ⟨v, hv, h1v, hr, hp⟩ := hat _ e j a (hg i e hi) hj
        have hv' : vs.toList.getD ((p + i) * sz + j) undef = v := by simp [List.getD, hv]
        rw [hv']
        exact hr.pure_move kp (pureA_of_pureB hp))
    rw [hlen] at key
    exact key

theorem roView_rep {c c' : Ctx} {k : Nat} {r : AV} {v : Value} (hr : refOf r = some k) (h : RepV c r v) (ho : RepO c k (c.H k)) (kp : Keeps c c') (hok : c'.ok (c.ρ k)) (hw : c'.w.heap[c.ρ k]? = c.w.heap[c.ρ k]?) : RepV c' (roView (c.H k) r) v := by
  cases h <;> simp only [refOf, Option.some.injEq, reduceCtorEq] at hr
  case own k' sz n cap hk hcap hroom =>
    subst hr
    generalize hH : c.H k' = o at ho hk
    cases o with
    | dead => simp [AO.info] at hk
    | cells cs => simp [AO.info] at hk
    | iarr l =>
      simp only [AO.info, Option.some.injEq, Prod.mk.injEq] at hk
      obtain ⟨rfl, rfl⟩ := hk
      have := arr_sl (repO_iarr.1 ho) kp hok hw (p := 0) (q := l.length) (o := 0) (cap := cap) (Nat.zero_le _) (by rw [icells_length]; exact Nat.le_refl _) (by omega) (.inl (by simp))
      simp only [Nat.sub_zero, List.drop_zero] at this
      rw [List.take_of_length_le (by rw [icells_length]; exact Nat.le_refl _)] at this
      exact .ints l _ this
    | arr sz' l =>
      simp only [AO.info, Option.some.injEq, Prod.mk.injEq] at hk
      obtain ⟨rfl, rfl⟩ := hk
      have := arr_sl ho kp hok hw (p := 0) (q := l.length) (o := 0) (cap := cap) (Nat.zero_le _) (Nat.le_refl _) (by omega) (.inl (by simp))
      simp only [Nat.sub_zero, List.drop_zero] at this
      rw [List.take_of_length_le (Nat.le_refl _)] at this
      exact this
  case sub k' sz n lo hi o' cap hk h1 h2 hcap hroom hoff =>
    subst hr
    generalize hH : c.H k' = o at ho hk
    cases o with
    | dead => simp [AO.info] at hk
    | cells cs => simp [AO.info] at hk
    | iarr l =>
      simp only [AO.info, Option.some.injEq, Prod.mk.injEq] at hk
      obtain ⟨rfl, rfl⟩ := hk
      have := arr_sl (repO_iarr.1 ho) kp hok hw (p := lo) (q := hi) (o := o') (cap := cap) h1 (by rw [icells_length]; exact h2) hcap.1 (hoff.imp id fun h => h.2.1)
      rw [← icells_cut] at this
      exact .ints _ _ this
    | arr sz' l =>
      simp only [AO.info, Option.some.injEq, Prod.mk.injEq] at hk
      obtain ⟨rfl, rfl⟩ := hk
      exact arr_sl ho kp hok hw (p := lo) (q := hi) (o := o') (cap := cap) h1 h2 hcap.1 (hoff.imp id fun h => h.2.1)
  case win k' off n cap cs hk hcap hroom => exact .any _
  case clo f k' cs hk => exact .any _
  case ifp t k' off cs hk => exact .any _
  case el k' i off sz n hk hi =>
    subst hr
    generalize hH : c.H k' = o at ho hk
    have key : ∀ {s : Nat} {l : List (List AV)}, RepO c k' (.arr s l) → i < l.length → s = sz → RepV c' (.ro ((l.getD i []).drop off)) (.pointer (some ⟨c.ρ k', i * sz + off, none⟩)) := by
      intro s l ho' hil hs
      subst hs
      have hg : l[i]? = some (l.getD i []) := by simp [List.getD, hil]
      obtain ⟨vf, hv⟩ := obj_arr ho' hg off
      refine .ro _ _ _ vf (.inl hok) (fun j a hj => ?_) (fun j a hj => (hv j a hj).2.2.1.pure_move kp (pureA_of_pureB (hv j a hj).2.2.2))
      obtain ⟨h1, h2, h3, h4⟩ := hv j a hj
      exact ⟨(World.cell?_of_block (w := c.w) hw).trans h1, h4, h2⟩
    cases o with
    | dead => simp [AO.info] at hk
    | cells cs => simp [AO.info] at hk
    | iarr l =>
      simp only [AO.info, Option.some.injEq, Prod.mk.injEq] at hk
      exact key (repO_iarr.1 ho) (by rw [icells_length]; omega) hk.1
    | arr sz' l =>
      simp only [AO.info, Option.some.injEq, Prod.mk.injEq] at hk
      exact key ho (by omega) hk.1
  case ptr k' off cs hk =>
    subst hr
    rw [hk] at ho
    rw [hk]
    obtain ⟨vf, hv⟩ := obj_cells ho off
    have hmap : ∀ (j : Nat) a, ((cs.drop off).map (mapC fun _ => .any))[j]? = some a → ∃ a0, (cs.drop off)[j]? = some a0 ∧ a = mapC (fun _ => .any) a0 := by
      intro j a hj
      rw [List.getElem?_map] at hj
      obtain ⟨a0, h0, h1⟩ := Option.map_eq_some_iff.1 hj
      exact ⟨a0, h0, h1.symm⟩
    refine .ro _ _ _ vf (.inl hok) (fun j a hj => ?_) (fun j a hj => ?_)
    · obtain ⟨a0, h0, rfl⟩ := hmap j a hj
      obtain ⟨h1, h2, h3⟩ := hv j a0 h0
      refine ⟨(World.cell?_of_block (w := c.w) hw).trans h1, ?_, h2⟩
      cases a0 with
      | agg cs0 => exact (h3.not_agg h2).elim
      | tup cs0 => exact (h3.not_tup (oneCell_not_tuple h2)).elim
      | _ => rfl
    · obtain ⟨a0, h0, rfl⟩ := hmap j a hj
      exact mapC_move kp (fun _ => .any) (fun r v _ _ => .any v) (hv j a0 h0).2.1 (hv j a0 h0).2.2

/-- A reference as the callee sees it. -/
def argView (ρc vs : List Nat) (H : Nat → AO) (r : AV) : AV :=
  match refOf r with
  | none => r
  | some k => match ρc.idxOf? k with
    | some i => reIdx i r
    | none => if vs.contains k then roView (H k) r else .any
def calleeH (ρc vs : List Nat) (H : Nat → AO) : List AO := ρc.map fun k => mapO (argView ρc vs H) (H k)
def calleeE (E : Entry) (S : FS) (w : World) (ρ : Nat → Nat) (A : FA) (ρc vs : List Nat) (fx : Bool) : Entry :=
  { w0 := w, ok0 := fun b => okOf E S.H w ρ b ∨ ∃ k, k ∈ vs ∧ alive S.H k ∧ ρ k = b, Z := E.Z, n0 := ρc.length, ρ0 := fun i => ρ (ρc.getD i 0), c0 := fun i => ∃ cs, S.H (ρc.getD i 0) = .cells cs, A0 := A, fx := fx }

theorem idxOf_some {l : List Nat} {k i : Nat} (h : l.idxOf? k = some i) : l[i]? = some k := by
  have := List.idxOf?_eq_some_iff.1 h
  obtain ⟨hi, h1, _⟩ := this
  rw [List.getElem?_eq_getElem hi]
  simpa using h1
theorem idxOf_mem {l : List Nat} {k : Nat} (h : k ∈ l) : ∃ i, l.idxOf? k = some i := by
  cases hq : l.idxOf? k with
  | some i => exact ⟨i, rfl⟩
  | none => exact absurd h (List.idxOf?_eq_none_iff.1 hq)
theorem idxOf_get {l : List Nat} (hnd : l.Nodup) {k i : Nat} (h : l[i]? = some k) : l.idxOf? k = some i := by
  obtain ⟨j, hj⟩ := idxOf_mem (List.mem_of_getElem? h)
  have hj' := idxOf_some hj
  have hi := (List.getElem?_eq_some_iff.1 h).1
  have : j = i := by
    have hjl := (List.getElem?_eq_some_iff.1 hj').1
    have e1 : l[j] = l[i] := by rw [(List.getElem?_eq_some_iff.1 hj').2, (List.getElem?_eq_some_iff.1 h).2]
    exact (List.getElem_inj hnd).1 e1
  rw [hj, this]

theorem listH_callee {ρc vs : List Nat} {H : Nat → AO} {i k : Nat} (h : ρc[i]? = some k) : listH (calleeH ρc vs H) i = mapO (argView ρc vs H) (H k) := by
  simp [listH, calleeH, List.getD, h]
theorem listH_callee_alive {ρc vs : List Nat} {H : Nat → AO} {i : Nat} (h : alive (listH (calleeH ρc vs H)) i) : ∃ k, ρc[i]? = some k := by
  cases hq : ρc[i]? with
  | some k => exact ⟨k, rfl⟩
  | none => exact absurd (by simp [listH, calleeH, List.getD, hq]) h

/-- A reference turned to another object of the same make. -/
theorem RepV.reIdx {c c' : Ctx} {r : AV} {v : Value} {k i : Nat} (hr : refOf r = some k) (h : RepV c r v) (hρ : c'.ρ i = c.ρ k) (hi : (c'.H i).info = (c.H k).info)
    (hcell : ∀ cs, c.H k = .cells cs → ∃ cs', c'.H i = .cells cs') (hw : c'.w.heap[c.ρ k]? = c.w.heap[c.ρ k]?) : RepV c' (reIdx i r) v := by
  have hroom : ∀ n, c.room k n → c'.room i n := by
    rintro n ⟨vs, T, fr, h1, h2⟩
    exact ⟨vs, T, fr, by rw [hρ, hw]; exact h1, h2⟩
  cases h <;> simp only [refOf, Option.some.injEq, reduceCtorEq] at hr
  case ptr k' off cs hk =>
    subst hr
    obtain ⟨cs', hcs⟩ := hcell cs hk
    rw [← hρ]; exact .ptr i off cs' hcs
  case el k' j off sz n hk hi' => subst hr; rw [← hρ]; exact .el i j off sz n (hi.trans hk) hi'
  case own k' sz n cap hk hcap hro => subst hr; rw [← hρ]; exact .own i sz n cap (hi.trans hk) hcap (hroom _ hro)
  case sub k' sz n lo hi' o cap hk h1 h2 hcap hro ho => subst hr; rw [← hρ]; exact .sub i sz n lo hi' o cap (hi.trans hk) h1 h2 hcap (hroom _ hro) ho
  case win k' off n cap cs hk hcap hro =>
    subst hr
    obtain ⟨cs', hcs⟩ := hcell cs hk
    rw [← hρ]; exact .win i off n cap cs' hcs hcap (hroom _ hro)
  case clo f k' cs hk =>
    subst hr
    obtain ⟨cs', hcs⟩ := hcell cs hk
    rw [← hρ]; exact .clo f i cs' hcs
  case ifp t k' off cs hk =>
    subst hr
    obtain ⟨cs', hcs⟩ := hcell cs hk
    rw [← hρ]; exact .ifp t i off cs' hcs

section
variable {ρc vs : List Nat} {fx : Bool}
theorem callee_keeps : Keeps (ctxOf E S.H w ρ A) (ctxOf (calleeE E S w ρ A ρc vs fx) (listH (calleeH ρc vs S.H)) w (fun i => ρ (ρc.getD i 0)) A) :=
  ⟨fun _ hb => .inl (.inl hb), fun _ _ => rfl, fun _ hb => hb, fun _ _ => rfl, Nat.le_refl _, fun _ _ => rfl⟩

theorem callee_ref (h : SatW E S.H S.F w ρ A) {r : AV} {v : Value} (hr : isRef r = true) (hv : RepV (ctxOf E S.H w ρ A) r v) :
    RepV (ctxOf (calleeE E S w ρ A ρc vs fx) (listH (calleeH ρc vs S.H)) w (fun i => ρ (ρc.getD i 0)) A) (argView ρc vs S.H r) v := by
  obtain ⟨k, hk, ha⟩ := RepO.alive_of hr hv
  unfold argView
  rw [hk]
  simp only
  split
  · rename_i i hi
    have hg := idxOf_some hi
    have hρ : ρ (ρc.getD i 0) = ρ k := by simp [List.getD, hg]
    refine hv.reIdx hk hρ ?_ (fun cs hcs => ⟨cs.map (mapC (argView ρc vs S.H)), ?_⟩) rfl
    · show (listH (calleeH ρc vs S.H) i).info = (S.H k).info
      rw [listH_callee hg, mapO_info]
    · show listH (calleeH ρc vs S.H) i = _
      have hcs : S.H k = .cells cs := hcs
      rw [listH_callee hg, hcs]; rfl
  · split
    · rename_i hvs
      refine roView_rep hk hv (h.obj k) callee_keeps ?_ rfl
      exact .inl (.inr ⟨k, by simpa using hvs, ha, rfl⟩)
    · exact .any v

theorem callee_sat (h : SatW E S.H S.F w ρ A) (hnd : ρc.Nodup) (hal : ∀ k ∈ ρc, alive S.H k) (hdis : ∀ k ∈ vs, k ∉ ρc) :
    SatW (calleeE E S w ρ A ρc vs fx) (listH (calleeH ρc vs S.H)) S.F w (fun i => ρ (ρc.getD i 0)) A := by
  have hget : ∀ {i}, i < ρc.length → ∃ k, ρc[i]? = some k ∧ ρc.getD i 0 = k ∧ k ∈ ρc := by
    intro i hi
    refine ⟨ρc[i], List.getElem?_eq_getElem hi, by simp [List.getD, hi], List.getElem_mem hi⟩
  refine { os := rfl, tape := rfl, output := rfl, size := Nat.le_refl _, frame := fun _ _ _ => rfl, okB := ?_, zB := ?_, place := ?_, inj := ?_, stay := ?_, fix := fun _ _ _ _ => rfl, grow := fun _ _ _ vs T fr h => ⟨vs, T, fr, h, Nat.le_refl _⟩, pins := fun p hp => by simp [calleeE] at hp, obj := ?_, fl := h.fl, nf := Nat.le_refl _, A0 := fun _ _ => rfl,
           fam := fun f fam hf => (h.fam f fam hf).move callee_keeps (h.fam_lt hf) }
  · rintro b (hb | ⟨k, hk, ha, rfl⟩)
    · refine ⟨h.ok_lt hb, fun i hi => ?_⟩
      obtain ⟨k, _, e, hm⟩ := hget hi
      show b ≠ ρ (ρc.getD i 0)
      rw [e]
      exact (h.ok_ne hb (hal k hm)).symm
    · refine ⟨(h.place k ha).1, fun i hi => ?_⟩
      obtain ⟨k', _, e, hm⟩ := hget hi
      show ρ k ≠ ρ (ρc.getD i 0)
      rw [e]
      intro he
      have := h.inj k k' ha (hal k' hm) he
      subst this
      exact hdis k hk hm
  · intro b hb
    refine ⟨h.z_lt hb, fun i hi => ?_⟩
    obtain ⟨k, _, e, hm⟩ := hget hi
    show b ≠ ρ (ρc.getD i 0)
    rw [e]
    exact (h.z_ne hb (hal k hm)).symm
  · intro i hi
    obtain ⟨k, hk⟩ := listH_callee_alive hi
    have hlt := (List.getElem?_eq_some_iff.1 hk).1
    have e : ρc.getD i 0 = k := by simp [List.getD, hk]
    rw [e]
    exact ⟨(h.place k (hal k (List.mem_of_getElem? hk))).1, .inr ⟨hlt, by show ρ k = ρ (ρc.getD i 0); rw [e]⟩⟩
  · intro i j hi hj hij
    obtain ⟨k, hk⟩ := listH_callee_alive hi
    obtain ⟨k', hk'⟩ := listH_callee_alive hj
    have e : ρc.getD i 0 = k := by simp [List.getD, hk]
    have e' : ρc.getD j 0 = k' := by simp [List.getD, hk']
    rw [e, e'] at hij
    have := h.inj k k' (hal k (List.mem_of_getElem? hk)) (hal k' (List.mem_of_getElem? hk')) hij
    subst this
    have h1 := idxOf_get hnd hk
    rw [idxOf_get hnd hk'] at h1
    exact (Option.some.inj h1).symm
  · intro i cs hi hcs
    refine ⟨?_, rfl⟩
    obtain ⟨k, hk, e, hm⟩ := hget hi
    show ∃ cs, S.H (ρc.getD i 0) = .cells cs
    rw [listH_callee hk] at hcs
    rw [e]
    cases hH : S.H k with
    | cells cs' => exact ⟨cs', rfl⟩
    | dead => rw [hH] at hcs; simp [mapO] at hcs
    | iarr l => rw [hH] at hcs; simp [mapO] at hcs
    | arr sz l => rw [hH] at hcs; simp [mapO] at hcs
  · intro i
    cases hq : ρc[i]? with
    | none =>
      have : listH (calleeH ρc vs S.H) i = .dead := by simp [listH, calleeH, List.getD, hq]
      rw [this]; trivial
    | some k =>
      rw [listH_callee hq]
      refine (h.obj k).move callee_keeps (argView ρc vs S.H) (fun r v hr hv => callee_ref h hr hv) ?_
      show w.heap[ρ (ρc.getD i 0)]? = w.heap[ρ k]?
      simp [List.getD, hq]
end

/-- A reference of the caller's after the call. -/
def oldRef (ρc frz : List Nat) (H : Nat → AO) (hs : List AO) (r : AV) : AV :=
  match refOf r with
  | none => r
  | some k => match ρc.idxOf? k with
    | some i => match r, listH hs i with
      | .ptr _ _, .cells _ => r
      | .ifp _ _ _, .cells _ => r
      | _, _ => .any
    | none => if frz.contains k then roView (H k) r else r
def backIdx (ρc : List Nat) (n i : Nat) : Nat := if i < ρc.length then ρc.getD i 0 else n + (i - ρc.length)
def backF (ρc : List Nat) (n : Nat) (r : AV) : AV := match refOf r with
  | none => r
  | some i => reIdx (backIdx ρc n i) r
def retH (ρc frz : List Nat) (H : Nat → AO) (n : Nat) (hs : List AO) : Nat → AO := fun k =>
  match ρc.idxOf? k with
  | some i => mapO (backF ρc n) (listH hs i)
  | none => if n ≤ k ∧ k < n + (hs.length - ρc.length) then mapO (backF ρc n) (listH hs (ρc.length + (k - n))) else if frz.contains k then .dead else mapO (oldRef ρc frz H hs) (H k)
def retρ (ρc : List Nat) (ρ : Nat → Nat) (n : Nat) (hs : List AO) (ρ' : Nat → Nat) : Nat → Nat := fun k =>
  match ρc.idxOf? k with
  | some i => ρ' i
  | none => if n ≤ k ∧ k < n + (hs.length - ρc.length) then ρ' (ρc.length + (k - n)) else ρ k

/-- Nothing that is only read is met. -/
theorem roFreeC_rep {c : Ctx} {a : AV} {v : Value} (hf : roFreeC a = true) (h : RepV c a v) : RepV { c with ok := fun _ => False } a v := by
  cases h <;> simp [roFreeC] at hf
  case any => exact .any _
  case val => exact .val _
  case bytes0 a cap => exact .bytes0 a cap
  case bytes l b off cap hz hcap hc => exact .bytes l b off cap hz hcap hc
  case zsl0 sz a cap => exact .zsl0 sz a cap
  case zsl sz l b off cap vf hz hcap hl hc h => exact (RepV.zsl sz l b off cap vf hz hcap hl hc h).z_move (c := c) (c' := { c with ok := fun _ => False }) (fun b hb => ⟨hb, rfl⟩) rfl
  case ptr k off cs hk => exact .ptr (c := { c with ok := fun _ => False }) k off cs hk
  case el k i off sz n hk hi => exact .el (c := { c with ok := fun _ => False }) k i off sz n hk hi
  case own k sz n cap hk hcap hr => exact .own (c := { c with ok := fun _ => False }) k sz n cap hk hcap hr
  case sub k sz n lo hi o cap hk h1 h2 hcap hr ho => exact .sub (c := { c with ok := fun _ => False }) k sz n lo hi o cap hk h1 h2 hcap hr ho
  case clo g k cs hk => exact .clo (c := { c with ok := fun _ => False }) g k cs hk
  case ifp t k off cs hk => exact .ifp (c := { c with ok := fun _ => False }) t k off cs hk
  case rp f i off _ => exact .rp (c := { c with ok := fun _ => False }) f i off (by assumption)
theorem roFreeA_rep {c : Ctx} {a : AV} {v : Value} (hf : (match a with | .agg es => es.all roFreeC | a => roFreeC a) = true) (h : RepV c a v) : RepV { c with ok := fun _ => False } a v := by
  cases a with
  | agg es =>
    cases h with
    | agg _ vs hl h1 h =>
      refine .agg es vs hl h1 fun i a v ha hv => roFreeC_rep ?_ (h i a v ha hv)
      simp only [List.all_eq_true] at hf
      exact hf a (List.mem_of_getElem? ha)
  | _ => exact roFreeC_rep hf h
theorem roFree_rep {c : Ctx} {a : AV} {v : Value} (hf : roFree a = true) (h : RepV c a v) : RepV { c with ok := fun _ => False } a v := by
  cases a with
  | tup cs =>
    cases h with
    | tup _ vs hl hn h =>
      refine .tup cs vs hl hn fun i a v ha hv => roFreeA_rep ?_ (h i a v ha hv)
      simp only [roFree, List.all_eq_true] at hf
      exact hf a (List.mem_of_getElem? ha)
  | agg cs => exact roFreeA_rep hf h
  | _ => exact roFreeC_rep hf h
theorem roFreeO_rep {c : Ctx} {k : Nat} {o : AO} (hf : roFreeO o) (h : RepO c k o) : RepO { c with ok := fun _ => False } k o := by
  cases o with
  | dead => trivial
  | cells cs =>
    obtain ⟨vs, T, h1, h2, h3, h4⟩ := h
    refine ⟨vs, T, h1, h2, h3, fun j a v ha hv => roFreeC_rep ?_ (h4 j a v ha hv)⟩
    simp only [roFreeO, List.all_eq_true] at hf
    exact hf a (List.mem_of_getElem? ha)
  | iarr l =>
    obtain ⟨vs, T, h1, h2, h3, h4⟩ := h
    refine ⟨vs, T, h1, h2, h3, fun i e j a v hi hj hv => ⟨roFreeC_rep ?_ (h4 i e j a v hi hj hv).1, (h4 i e j a v hi hj hv).2⟩⟩
    obtain ⟨x, _, rfl⟩ := icells_get.1 hi
    cases j with
    | zero => simp at hj; subst hj; rfl
    | succ j => simp at hj
  | arr sz l =>
    obtain ⟨vs, T, h1, h2, h3, h5, h4⟩ := h
    exact ⟨vs, T, h1, h2, h3, h5, fun i e j a v hi hj hv => ⟨roFreeC_rep (hf e (List.mem_of_getElem? hi) a (List.mem_of_getElem? hj)) (h4 i e j a v hi hj hv).1, (h4 i e j a v hi hj hv).2⟩⟩

section
variable {ρc vs : List Nat} {hs : List AO} {nF : List Fam} {w' : World} {ρ' : Nat → Nat} {A' : FA} {n cnt : Nat} {al fx : Bool} {r : AV} {v : Value}

theorem ret_notnew {k : Nat} (hcnt : hs.length ≤ ρc.length + cnt) (hdead : ∀ k, n ≤ k → k < n + cnt → S.H k = .dead) (ha : alive S.H k) : ¬ (n ≤ k ∧ k < n + (hs.length - ρc.length)) := by
  rintro ⟨h1, h2⟩
  exact ha (hdead k h1 (by omega))

theorem listH_lt {i : Nat} (h : alive (listH hs) i) : i < hs.length := by
  rcases Nat.lt_or_ge i hs.length with h' | h'
  · exact h'
  · exact absurd (by simp [listH, List.getD, h']) h

/-- Where an object of the caller's comes from, after the call. -/
theorem ret_src {frz : List Nat} {k : Nat} (ha : alive (retH ρc frz S.H n hs) k) :
    (∃ i, alive (listH hs) i ∧ retρ ρc ρ n hs ρ' k = ρ' i ∧ k = backIdx ρc n i ∧ (i < ρc.length → ρc.getD i 0 = k) ∧ retH ρc frz S.H n hs k = mapO (backF ρc n) (listH hs i)) ∨
    (alive S.H k ∧ k ∉ ρc ∧ k ∉ frz ∧ retρ ρc ρ n hs ρ' k = ρ k ∧ retH ρc frz S.H n hs k = mapO (oldRef ρc frz S.H hs) (S.H k)) := by
  unfold alive retH at ha
  unfold retρ retH
  cases hq : ρc.idxOf? k with
  | some i =>
    left
    rw [hq] at ha
    simp only at ha ⊢
    have hg := idxOf_some hq
    have hi := (List.getElem?_eq_some_iff.1 hg).1
    have e : ρc.getD i 0 = k := by simp [List.getD, hg]
    exact ⟨i, fun hd => ha (mapO_dead.2 hd), rfl, by unfold backIdx; rw [if_pos hi, e], fun _ => e, rfl⟩
  | none =>
    rw [hq] at ha
    simp only at ha ⊢
    by_cases hn : n ≤ k ∧ k < n + (hs.length - ρc.length)
    · left
      rw [if_pos hn] at ha
      refine ⟨ρc.length + (k - n), fun hd => ha (mapO_dead.2 hd), by rw [if_pos hn], ?_, fun h => by omega, by rw [if_pos hn]⟩
      unfold backIdx
      rw [if_neg (by omega)]
      omega
    · right
      rw [if_neg hn] at ha
      by_cases hf : frz.contains k = true
      · rw [if_pos hf] at ha; exact absurd rfl ha
      · rw [if_neg hf] at ha
        refine ⟨fun hd => ha (mapO_dead.2 hd), List.idxOf?_eq_none_iff.1 hq, by simpa using hf, by rw [if_neg hn], by rw [if_neg hn, if_neg hf]⟩

theorem Sat.ret (h : Sat E S tm a w ρ A) (hnd : ρc.Nodup) (hal : ∀ k ∈ ρc, alive S.H k) (hdis : ∀ k ∈ vs, k ∉ ρc) (h' : SatW (calleeE E S w ρ A ρc vs fx) (listH hs) (S.F ++ nF) w' ρ' A') (hl : ρc.length ≤ hs.length)
    (hn0 : E.n0 ≤ n) (hcnt : hs.length ≤ ρc.length + cnt) (hdead : ∀ k, n ≤ k → k < n + cnt → S.H k = .dead) {frz : List Nat} (hfrz : frz = if al then vs else []) (hfn : al = true → ∀ k ∈ vs, E.n0 ≤ k)
    (hro : al = false → (roFree r = true ∧ ∀ o ∈ hs, roFreeO o) ∧ nF = []) (hfx : E.fx = true → fx = true ∨ ∀ k ∈ ρc, E.n0 ≤ k) (hr : RepV (ctxOf (calleeE E S w ρ A ρc vs fx) (listH hs) w' ρ' A') r v) :
    Sat E ⟨fun t => mapR (oldRef ρc frz S.H hs) (S.env t), retH ρc frz S.H n hs, S.F ++ nF⟩ tm a w' (retρ ρc ρ n hs ρ') A' ∧
      RepV (ctxOf E (retH ρc frz S.H n hs) w' (retρ ρc ρ n hs ρ') A') (mapR (backF ρc n) r) v := by
  have hsz : w.heap.size ≤ w'.heap.size := h'.size
  have hget : ∀ {i}, i < ρc.length → alive S.H (ρc.getD i 0) := by
    intro i hi
    have : ρc.getD i 0 = ρc[i] := by simp [List.getD, hi]
    rw [this]
    exact hal _ (List.getElem_mem hi)
  have hplace' : ∀ i, alive (listH hs) i → ρ' i < w'.heap.size ∧ (w.heap.size ≤ ρ' i ∨ (i < ρc.length ∧ ρ' i = ρ (ρc.getD i 0))) := h'.place
  have hframe' : ∀ b, b < w.heap.size → (∀ i, i < ρc.length → b ≠ ρ (ρc.getD i 0)) → w'.heap[b]? = w.heap[b]? := h'.frame
  have hsame : ∀ k, alive S.H k → k ∉ ρc → w'.heap[ρ k]? = w.heap[ρ k]? := by
    intro k ha hk
    refine hframe' _ (h.place k ha).1 fun i hi e => ?_
    have := h.inj k _ ha (hget hi) e
    subst this
    have : ρc.getD i 0 = ρc[i] := by simp [List.getD, hi]
    rw [this] at hk
    exact hk (List.getElem_mem hi)
  let Hn := retH ρc frz S.H n hs
  let ρn := retρ ρc ρ n hs ρ'
  have hsrc : ∀ k, alive Hn k → _ := fun k ha => ret_src (ρ := ρ) (ρ' := ρ') (frz := frz) ha
  -- a block below w's end that is nobody's stays nobody's
  have hfree : ∀ b, b < w.heap.size → (∀ k, alive S.H k → k ∉ frz → ρ k ≠ b) → (∀ k, k ∈ ρc → ρ k ≠ b) → ∀ k, alive Hn k → ρn k ≠ b := by
    intro b hb h1 h2 k hk
    rcases hsrc k hk with ⟨i, hi, e1, e2, e3, _⟩ | ⟨hi, hk', hf, e1, _⟩
    · show retρ ρc ρ n hs ρ' k ≠ b
      rw [e1]
      rcases (hplace' i hi).2 with h3 | h3
      · omega
      · rw [h3.2]
        refine h2 _ ?_
        have : ρc.getD i 0 = ρc[i]'h3.1 := by simp [List.getD, h3.1]
        rw [this]; exact List.getElem_mem h3.1
    · show retρ ρc ρ n hs ρ' k ≠ b
      rw [e1]; exact h1 k hi hf
  have kp : Keeps (ctxOf E S.H w ρ A) (ctxOf E Hn w' ρn A') := by
    refine ⟨fun b hb => ?_, fun b hb => ?_, fun b hb => hb, fun b hb => ?_, h'.nf, h'.A0⟩
    · have hlt := h.ok_lt hb
      have hw := hframe' b hlt fun i hi => (h.ok_ne hb (hget hi)).symm
      rcases hb with hb | hb
      · exact .inl hb
      · exact .inr ⟨hb.1, by show b < w'.heap.size; omega, hfree b hlt (fun k hk _ => hb.2.2.1 k hk) (fun k hk => hb.2.2.1 k (hal k hk)), hb.2.2.2.same hw⟩
    · exact hframe' b (h.ok_lt hb) fun i hi => (h.ok_ne hb (hget hi)).symm
    · exact hframe' b (h.z_lt hb) fun i hi => (h.z_ne hb (hget hi)).symm
  have hview : al = true → ∀ k, k ∈ vs → alive S.H k → okOf E Hn w' ρn (ρ k) := by
    intro hal' k hk ha
    have hp := h.place k ha
    have hge : E.w0.heap.size ≤ ρ k := by
      rcases hp.2 with h1 | h1
      · exact h1
      · have := hfn hal' k hk; omega
    refine .inr ⟨hge, by omega, hfree _ hp.1 (fun j hj hjf e => ?_) (fun j hj e => ?_), (h.toSatW.alive_unfr ha).same (hsame k ha (hdis k hk))⟩
    · have := h.inj j k hj ha e
      subst this
      rw [hfrz, hal'] at hjf
      exact hjf hk
    · have := h.inj j k (hal j hj) ha e
      subst this
      exact hdis j hk hj
  -- the callee's reading, without what it must not hand back
  have hres : ∃ okr : Nat → Prop, (∀ b, okr b → okOf E Hn w' ρn b) ∧ RepV { ctxOf (calleeE E S w ρ A ρc vs fx) (listH hs) w' ρ' A' with ok := okr } r v ∧
      (∀ i, RepO { ctxOf (calleeE E S w ρ A ρc vs fx) (listH hs) w' ρ' A' with ok := okr } i (listH hs i)) ∧
      (∀ f fam, S.F.length ≤ f → (S.F ++ nF)[f]? = some fam → RepFam { ctxOf (calleeE E S w ρ A ρc vs fx) (listH hs) w' ρ' A' with ok := okr } f fam) := by
    cases hq : al with
    | true =>
      refine ⟨okOf (calleeE E S w ρ A ρc vs fx) (listH hs) w' ρ', fun b hb => ?_, hr, h'.obj, fun f fam _ hf => h'.fam f fam hf⟩
      rcases hb with (hb | ⟨k, hk, ha, rfl⟩) | ⟨h1, h2, h3, h4⟩
      · exact kp.ok b hb
      · exact hview hq k hk ha
      · have h1 : w.heap.size ≤ b := h1
        refine .inr ⟨Nat.le_trans h.size h1, h2, fun k hk => ?_, h4⟩
        rcases hsrc k hk with ⟨i, hi, e1, _⟩ | ⟨hi, _, _, e1, _⟩
        · show retρ ρc ρ n hs ρ' k ≠ b
          rw [e1]; exact h3 i hi
        · show retρ ρc ρ n hs ρ' k ≠ b
          rw [e1]
          have := (h.place k hi).1; omega
    | false =>
      obtain ⟨⟨hrf, hof⟩, hnF⟩ := hro hq
      refine ⟨fun _ => False, fun b hb => hb.elim, roFree_rep hrf hr, fun i => roFreeO_rep ?_ (h'.obj i), fun f fam hf1 hf2 => ?_⟩
      rotate_left
      · rw [hnF, List.append_nil] at hf2
        have := (List.getElem?_eq_some_iff.1 hf2).1
        omega
      rcases Nat.lt_or_ge i hs.length with hi | hi
      · have : listH hs i = hs[i] := by simp [listH, List.getD, hi]
        rw [this]; exact hof _ (List.getElem_mem hi)
      · have : listH hs i = .dead := by simp [listH, List.getD, hi]
        rw [this]; trivial
  obtain ⟨okr, hokr, hr1, ho1, hf1⟩ := hres
  have kp1 : Keeps { ctxOf (calleeE E S w ρ A ρc vs fx) (listH hs) w' ρ' A' with ok := okr } (ctxOf E Hn w' ρn A') :=
    ⟨hokr, fun _ _ => rfl, fun _ hb => hb, fun _ _ => rfl, Nat.le_refl _, fun _ _ => rfl⟩
  -- where object i of the callee's lies
  have hback : ∀ i, alive (listH hs) i → Hn (backIdx ρc n i) = mapO (backF ρc n) (listH hs i) ∧ ρn (backIdx ρc n i) = ρ' i := by
    intro i hi
    have hilt := listH_lt hi
    by_cases hlt : i < ρc.length
    · have hg : ρc[i]? = some (ρc.getD i 0) := by simp [List.getD, hlt]
      have hq := idxOf_get hnd hg
      have e : backIdx ρc n i = ρc.getD i 0 := by unfold backIdx; rw [if_pos hlt]
      rw [e]
      refine ⟨?_, ?_⟩
      · show retH ρc frz S.H n hs _ = _
        unfold retH; rw [hq]
      · show retρ ρc ρ n hs ρ' _ = _
        unfold retρ; rw [hq]
    · have e : backIdx ρc n i = n + (i - ρc.length) := by unfold backIdx; rw [if_neg hlt]
      have hd : S.H (n + (i - ρc.length)) = .dead := hdead _ (by omega) (by omega)
      have hq : ρc.idxOf? (n + (i - ρc.length)) = none := by
        rw [List.idxOf?_eq_none_iff]
        intro hm
        exact hal _ hm hd
      have hc : n ≤ n + (i - ρc.length) ∧ n + (i - ρc.length) < n + (hs.length - ρc.length) := by omega
      have hi' : ρc.length + (n + (i - ρc.length) - n) = i := by omega
      rw [e]
      refine ⟨?_, ?_⟩
      · show retH ρc frz S.H n hs _ = _
        unfold retH; rw [hq]; simp only; rw [if_pos hc, hi']
      · show retρ ρc ρ n hs ρ' _ = _
        unfold retρ; rw [hq]; simp only; rw [if_pos hc, hi']
  have href1 : ∀ r v, isRef r = true → RepV { ctxOf (calleeE E S w ρ A ρc vs fx) (listH hs) w' ρ' A' with ok := okr } r v → RepV (ctxOf E Hn w' ρn A') (backF ρc n r) v := by
    intro r v hir hv
    obtain ⟨i, hi, ha⟩ := RepO.alive_of hir hv
    obtain ⟨b1, b2⟩ := hback i ha
    unfold backF
    rw [hi]
    refine hv.reIdx hi b2 ?_ (fun cs hcs => ⟨cs.map (mapC (backF ρc n)), ?_⟩) rfl
    · show (Hn _).info = _
      rw [b1, mapO_info]
    · show Hn _ = _
      have hcs : listH hs i = .cells cs := hcs
      rw [b1, hcs]; rfl
  have href : ∀ r v, isRef r = true → RepV (ctxOf E S.H w ρ A) r v → RepV (ctxOf E Hn w' ρn A') (oldRef ρc frz S.H hs r) v := by
    intro r v hir hv
    obtain ⟨k, hk, ha⟩ := RepO.alive_of hir hv
    unfold oldRef
    rw [hk]
    simp only
    split
    · rename_i i hi
      split
      · rename_i k' off cs hcs
        simp only [refOf, Option.some.injEq] at hk
        subst hk
        cases hv with
        | ptr _ _ cs0 hk0 =>
          have hg := idxOf_some hi
          have hilt := (List.getElem?_eq_some_iff.1 hg).1
          have e : ρc.getD i 0 = k' := by simp [List.getD, hg]
          have hali : alive (listH hs) i := by rw [alive, hcs]; simp
          obtain ⟨b1, b2⟩ := hback i hali
          have eb : backIdx ρc n i = k' := by unfold backIdx; rw [if_pos hilt, e]
          rw [eb] at b1 b2
          have hst := (h'.stay i cs hilt hcs).2
          have hst : ρ' i = ρ (ρc.getD i 0) := hst
          rw [e] at hst
          have : RepV (ctxOf E Hn w' ρn A') (.ptr k' off) (.pointer (some ⟨ρn k', off, none⟩)) := .ptr k' off (cs.map (mapC (backF ρc n))) (by show Hn k' = _; rw [b1, hcs]; rfl)
          rw [b2, hst] at this
          exact this
      · rename_i t k' off cs hcs
        simp only [refOf, Option.some.injEq] at hk
        subst hk
        cases hv with
        | ifp _ _ _ cs0 hk0 =>
          have hg := idxOf_some hi
          have hilt := (List.getElem?_eq_some_iff.1 hg).1
          have e : ρc.getD i 0 = k' := by simp [List.getD, hg]
          have hali : alive (listH hs) i := by rw [alive, hcs]; simp
          obtain ⟨b1, b2⟩ := hback i hali
          have eb : backIdx ρc n i = k' := by unfold backIdx; rw [if_pos hilt, e]
          rw [eb] at b1 b2
          have hst := (h'.stay i cs hilt hcs).2
          have hst : ρ' i = ρ (ρc.getD i 0) := hst
          rw [e] at hst
          have : RepV (ctxOf E Hn w' ρn A') (.ifp t k' off) (.iface t (.pointer (some ⟨ρn k', off, none⟩))) := .ifp t k' off (cs.map (mapC (backF ρc n))) (by show Hn k' = _; rw [b1, hcs]; rfl)
          rw [b2, hst] at this
          exact this
      · exact .any v
    · rename_i hq
      have hnm := List.idxOf?_eq_none_iff.1 hq
      split
      · rename_i hf
        rw [hfrz] at hf
        cases hq' : al with
        | false => rw [hq'] at hf; simp at hf
        | true =>
          rw [hq'] at hf
          simp only [if_true] at hf
          exact roView_rep hk hv (h.obj k) kp (hview hq' k (by simpa using hf) ha) (hsame k ha hnm)
      · rename_i hf
        have hnn := ret_notnew hcnt hdead ha
        have b1 : Hn k = mapO (oldRef ρc frz S.H hs) (S.H k) := by
          show retH ρc frz S.H n hs k = _
          unfold retH; rw [hq]; simp only; rw [if_neg hnn, if_neg hf]
        have b2 : ρn k = ρ k := by
          show retρ ρc ρ n hs ρ' k = _
          unfold retρ; rw [hq]; simp only; rw [if_neg hnn]
        refine hv.ref_other hk b2 (by show (Hn k).info = _; rw [b1, mapO_info]) (fun cs hcs => ⟨cs.map (mapC (oldRef ρc frz S.H hs)), ?_⟩) fun vs0 T0 fr0 h0 => ⟨vs0, T0, fr0, ?_, Nat.le_refl _⟩
        · have hcs : S.H k = .cells cs := hcs
          show Hn k = _
          rw [b1, hcs]; rfl
        · show w'.heap[ρ k]? = _
          rw [hsame k ha hnm]; exact h0
  have gfix : E.fx = true → ∀ k, k < E.n0 → alive Hn k → ρn k = E.ρ0 k := by
    intro hfE k hk ha
    rcases hsrc k ha with ⟨i, hi, e1, e2, e3, _⟩ | ⟨hi, hk', hf, e1, _⟩
    · show retρ ρc ρ n hs ρ' k = _
      rw [e1]
      have hilt : i < ρc.length := by
        rcases Nat.lt_or_ge i ρc.length with h1 | h1
        · exact h1
        · unfold backIdx at e2
          rw [if_neg (by omega)] at e2
          omega
      have hak := hget hilt
      have hmem : ρc.getD i 0 ∈ ρc := by
        have : ρc.getD i 0 = ρc[i] := by simp [List.getD, hilt]
        rw [this]; exact List.getElem_mem hilt
      rcases hfx hfE with h1 | h1
      · have h2 : ρ' i = ρ (ρc.getD i 0) := h'.fix h1 i hilt hi
        rw [h2]
        rw [e3 hilt] at hak ⊢
        exact h.fix hfE k hk hak
      · have := h1 _ hmem
        rw [e3 hilt] at this
        omega
    · show retρ ρc ρ n hs ρ' k = _
      rw [e1]
      exact h.fix hfE k hk hi
  have ggrow : E.fx = true → ∀ k, k < E.n0 → ∀ vs T fr, E.w0.heap[E.ρ0 k]? = some (.cells vs T fr) → ∃ vs' T' fr', w'.heap[E.ρ0 k]? = some (.cells vs' T' fr') ∧ vs.size ≤ vs'.size := by
    intro hfE k hk us T fr h0
    obtain ⟨us1, T1, fr1, h1, h2⟩ := h.grow hfE k hk us T fr h0
    have hlt0 : E.ρ0 k < E.w0.heap.size := (Array.getElem?_eq_some_iff.1 h0).1
    have hlt : E.ρ0 k < w.heap.size := (Array.getElem?_eq_some_iff.1 h1).1
    by_cases hx : ∃ i, i < ρc.length ∧ E.ρ0 k = ρ (ρc.getD i 0)
    · obtain ⟨i, hi, he⟩ := hx
      have hmem : ρc.getD i 0 ∈ ρc := by
        have : ρc.getD i 0 = ρc[i] := by simp [List.getD, hi]
        rw [this]; exact List.getElem_mem hi
      rcases hfx hfE with h3 | h3
      · obtain ⟨us2, T2, fr2, h4, h5⟩ := h'.grow h3 i hi us1 T1 fr1 (by show w.heap[ρ (ρc.getD i 0)]? = _; rw [← he]; exact h1)
        have h4 : w'.heap[ρ (ρc.getD i 0)]? = some (.cells us2 T2 fr2) := h4
        exact ⟨us2, T2, fr2, by rw [he]; exact h4, Nat.le_trans h2 h5⟩
      · have h4 := h3 _ hmem
        rcases (h.place _ (hget hi)).2 with h5 | h5
        · omega
        · omega
    · exact ⟨us1, T1, fr1, (hframe' _ hlt fun i hi e => hx ⟨i, hi, e⟩).trans h1, h2⟩
  refine ⟨{ os := h'.os.trans h.os, tape := h'.tape.trans h.tape, output := h'.output.trans h.output, size := Nat.le_trans h.size hsz, frame := ?_, okB := h.okB, zB := h.zB, place := ?_, inj := ?_, stay := ?_, obj := ?_, fl := h'.fl,
            nf := Nat.le_trans h.nf h'.nf, A0 := ?_, fam := ?_, env := fun t => (h.env t).move kp _ href, tsize := h.tsize, defers := h.defers.move kp, fix := gfix, grow := ggrow, pins := fun p hp => ⟨(h.pins p hp).1, (kp.okw _ (.inl (h.pins p hp).1)).trans (h.pins p hp).2⟩ }, hr1.move kp1 _ href1⟩
  · intro b hb hn
    rw [hframe' b (Nat.lt_of_lt_of_le hb h.size) fun i hi e => ?_]
    · exact h.frame b hb hn
    · rcases (h.place _ (hget hi)).2 with h1 | h1
      · omega
      · exact hn _ h1.1 (by omega)
  · intro k hk
    rcases hsrc k hk with ⟨i, hi, e1, e2, e3, _⟩ | ⟨hi, hk', hf, e1, _⟩
    · rw [e1]
      refine ⟨(hplace' i hi).1, ?_⟩
      rcases (hplace' i hi).2 with h1 | h1
      · exact .inl (Nat.le_trans h.size h1)
      · rw [h1.2, e3 h1.1]
        have := (h.place _ (hget h1.1)).2
        rw [e3 h1.1] at this
        exact this
    · rw [e1]
      exact ⟨Nat.lt_of_lt_of_le (h.place k hi).1 hsz, (h.place k hi).2⟩
  · intro k j hk hj hkj
    rcases hsrc k hk with ⟨i, hi, e1, e2, e3, _⟩ | ⟨hi, hk', hf, e1, _⟩
    · rcases hsrc j hj with ⟨i', hi', e1', e2', e3', _⟩ | ⟨hi', hk'', hf', e1', _⟩
      · rw [e1, e1'] at hkj
        have := h'.inj i i' hi hi' hkj
        rw [e2, e2', this]
      · rw [e1, e1'] at hkj
        rcases (hplace' i hi).2 with h1 | h1
        · have := (h.place j hi').1; omega
        · rw [h1.2, e3 h1.1] at hkj
          have hak := hget h1.1
          rw [e3 h1.1] at hak
          exact h.inj k j hak hi' hkj
    · rcases hsrc j hj with ⟨i', hi', e1', e2', e3', _⟩ | ⟨hi', hk'', hf', e1', _⟩
      · rw [e1, e1'] at hkj
        rcases (hplace' i' hi').2 with h1 | h1
        · have := (h.place k hi).1; omega
        · rw [h1.2, e3' h1.1] at hkj
          have hak := hget h1.1
          rw [e3' h1.1] at hak
          exact h.inj k j hi hak hkj
      · rw [e1, e1'] at hkj
        exact h.inj k j hi hi' hkj
  · intro k cs hk hcs
    have hcs : retH ρc frz S.H n hs k = .cells cs := hcs
    have hak : alive Hn k := by show retH ρc frz S.H n hs k ≠ _; rw [hcs]; simp
    rcases hsrc k hak with ⟨i, hi, e1, e2, e3, e4⟩ | ⟨hi, hk', hf, e1, e4⟩
    · rw [e1]
      have hilt : i < ρc.length := by
        rcases Nat.lt_or_ge i ρc.length with h1 | h1
        · exact h1
        · unfold backIdx at e2
          rw [if_neg (by omega)] at e2
          omega
      have e5 : retH ρc frz S.H n hs k = .cells cs := hcs
      rw [e4] at e5
      cases hli : listH hs i with
      | cells cs' =>
        obtain ⟨⟨cs0, hc0⟩, hst⟩ := h'.stay i cs' hilt hli
        have hst : ρ' i = ρ (ρc.getD i 0) := hst
        rw [e3 hilt] at hc0 hst
        rw [hst]
        exact h.stay k cs0 hk hc0
      | dead => rw [hli] at e5; simp [mapO] at e5
      | iarr l => rw [hli] at e5; simp [mapO] at e5
      | arr sz l => rw [hli] at e5; simp [mapO] at e5
    · rw [e1]
      have e5 : retH ρc frz S.H n hs k = .cells cs := hcs
      rw [e4] at e5
      cases hH : S.H k with
      | cells cs' => exact h.stay k cs' hk hH
      | dead => rw [hH] at e5; simp [mapO] at e5
      | iarr l => rw [hH] at e5; simp [mapO] at e5
      | arr sz l => rw [hH] at e5; simp [mapO] at e5
  · intro k
    by_cases hak : alive Hn k
    · rcases hsrc k hak with ⟨i, hi, e1, e2, e3, e4⟩ | ⟨hi, hk', hf, e1, e4⟩
      · show RepO (ctxOf E Hn w' ρn A') k (retH ρc frz S.H n hs k)
        rw [e4]
        exact (ho1 i).move kp1 _ href1 (by show w'.heap[retρ ρc ρ n hs ρ' k]? = w'.heap[ρ' i]?; rw [e1])
      · show RepO (ctxOf E Hn w' ρn A') k (retH ρc frz S.H n hs k)
        rw [e4]
        exact (h.obj k).move kp _ href (by show w'.heap[retρ ρc ρ n hs ρ' k]? = w.heap[ρ k]?; rw [e1]; exact hsame k hi hk')
    · have hd : retH ρc frz S.H n hs k = .dead := Classical.byContradiction hak
      show RepO (ctxOf E Hn w' ρn A') k (retH ρc frz S.H n hs k)
      rw [hd]; trivial
  · intro f hf
    rw [← h.A0 f hf]
    exact h'.A0 f (Nat.lt_of_lt_of_le hf h.nf)
  · intro f fam hf
    by_cases hlt : f < S.F.length
    · rw [List.getElem?_append_left hlt] at hf
      exact (h.fam f fam hf).move kp (h.fam_lt hf)
    · exact (hf1 f fam (by omega) hf).move kp1 (h'.fam_lt hf)
end
end Go.Vc
namespace Go.Vc
variable {P : Program} {T : TT} {E : Entry} {w w' : World} {ρ : Nat → Nat} {A A' : FA} {S : FS} {tm : Nat} {a : Act} {ρc vs : List Nat}

/-- The objects of ρc as the list has them, the others as they were. -/
def inH (ρc : List Nat) (H : Nat → AO) (hs : List AO) : Nat → AO := fun k => match ρc.idxOf? k with
  | some i => listH hs i
  | none => H k

theorem Sat.inplace (h : Sat E S tm a w ρ A) {hs : List AO} {ρ' : Nat → Nat} (hal : ∀ k ∈ ρc, alive S.H k) (h' : SatW (calleeE E S w ρ A ρc vs true) (listH hs) S.F w' ρ' A')
    (hi : ∀ i, i < ρc.length → (listH hs i).info = (S.H (ρc.getD i 0)).info ∧ (∃ n, (listH hs i).info = some n) ∧ (vs = [] ∨ roFreeO (listH hs i))) :
    Sat E ⟨S.env, inH ρc S.H hs, S.F⟩ tm a w' ρ A' := by
  have hsz : w.heap.size ≤ w'.heap.size := h'.size
  have hall : ∀ i, i < ρc.length → alive (listH hs) i := by
    intro i hlt e
    obtain ⟨_, ⟨n, h1⟩, _⟩ := hi i hlt
    rw [e] at h1
    cases h1
  have hρ : ∀ i, i < ρc.length → ρ' i = ρ (ρc.getD i 0) := fun i hlt => h'.fix rfl i hlt (hall i hlt)
  have hroom : ∀ i, i < ρc.length → ∀ us T fr, w.heap[ρ (ρc.getD i 0)]? = some (.cells us T fr) → ∃ us' T' fr', w'.heap[ρ (ρc.getD i 0)]? = some (.cells us' T' fr') ∧ us.size ≤ us'.size :=
    fun i hlt us T fr h0 => h'.grow rfl i hlt us T fr h0
  have hgetD : ∀ {i k}, ρc.idxOf? k = some i → i < ρc.length ∧ ρc.getD i 0 = k := by
    intro i k hq
    have hg := idxOf_some hq
    exact ⟨(List.getElem?_eq_some_iff.1 hg).1, by simp [List.getD, hg]⟩
  have hmem : ∀ {i}, i < ρc.length → ρc.getD i 0 ∈ ρc := by
    intro i hi
    have : ρc.getD i 0 = ρc[i] := by simp [List.getD, hi]
    rw [this]; exact List.getElem_mem hi
  have hframe' : ∀ b, b < w.heap.size → (∀ i, i < ρc.length → b ≠ ρ (ρc.getD i 0)) → w'.heap[b]? = w.heap[b]? := h'.frame
  have hinfo : ∀ k, (inH ρc S.H hs k).info = (S.H k).info := by
    intro k
    unfold inH
    cases hq : ρc.idxOf? k with
    | none => rfl
    | some i =>
      obtain ⟨h1, h2⟩ := hgetD hq
      have := (hi i h1).1
      rw [h2] at this
      exact this
  have hnotcell : ∀ {i k}, ρc.idxOf? k = some i → ∀ cs, S.H k ≠ .cells cs := by
    intro i k hq cs hcs
    obtain ⟨h1, h2⟩ := hgetD hq
    obtain ⟨h3, ⟨n, h4⟩, _⟩ := hi i h1
    rw [h2, hcs, h4] at h3
    simp [AO.info] at h3
  have halive : ∀ k, alive (inH ρc S.H hs) k ↔ alive S.H k := by
    intro k
    unfold alive inH
    cases hq : ρc.idxOf? k with
    | none => rfl
    | some i =>
      obtain ⟨h1, h2⟩ := hgetD hq
      have h5 := hal k (by rw [← h2]; exact hmem h1)
      constructor
      · intro _; exact h5
      · intro _; exact hall i h1
  have kp : Keeps (ctxOf E S.H w ρ A) (ctxOf E (inH ρc S.H hs) w' ρ A') := by
    refine ⟨fun b hb => ?_, fun b hb => ?_, fun b hb => hb, fun b hb => ?_, h'.nf, h'.A0⟩
    · have hw := hframe' b (h.ok_lt hb) fun i hi => (h.ok_ne hb (hal _ (hmem hi))).symm
      rcases hb with hb | hb
      · exact .inl hb
      · exact .inr ⟨hb.1, by show b < w'.heap.size; omega, fun k hk => hb.2.2.1 k ((halive k).1 hk), hb.2.2.2.same hw⟩
    · exact hframe' b (h.ok_lt hb) fun i hi => (h.ok_ne hb (hal _ (hmem hi))).symm
    · exact hframe' b (h.z_lt hb) fun i hi => (h.z_ne hb (hal _ (hmem hi))).symm
  have hsame : ∀ k, alive S.H k → k ∉ ρc → w'.heap[ρ k]? = w.heap[ρ k]? := by
    intro k ha hk
    refine hframe' _ (h.place k ha).1 fun i hi e => ?_
    have := h.inj k _ ha (hal _ (hmem hi)) e
    subst this
    exact hk (hmem hi)
  have href : ∀ r v, isRef r = true → RepV (ctxOf E S.H w ρ A) r v → RepV (ctxOf E (inH ρc S.H hs) w' ρ A') r v := by
    intro r v hir hv
    obtain ⟨k, hk, ha⟩ := RepO.alive_of hir hv
    refine hv.ref_other hk rfl (hinfo k) (fun cs hcs => ⟨cs, ?_⟩) fun us T fr h0 => ?_
    · have hcs : S.H k = .cells cs := hcs
      show inH ρc S.H hs k = _
      unfold inH
      cases hq : ρc.idxOf? k with
      | none => exact hcs
      | some i => exact absurd hcs (hnotcell hq cs)
    · by_cases hm : k ∈ ρc
      · obtain ⟨i, hq⟩ := idxOf_mem hm
        obtain ⟨h1, h2⟩ := hgetD hq
        have := hroom i h1 us T fr (by rw [h2]; exact h0)
        rw [h2] at this
        exact this
      · exact ⟨us, T, fr, (hsame k ha hm).trans h0, Nat.le_refl _⟩
  have ggrow : E.fx = true → ∀ k, k < E.n0 → ∀ vs T fr, E.w0.heap[E.ρ0 k]? = some (.cells vs T fr) → ∃ vs' T' fr', w'.heap[E.ρ0 k]? = some (.cells vs' T' fr') ∧ vs.size ≤ vs'.size := by
    intro hfE k hk us T fr h0
    obtain ⟨us1, T1, fr1, h1, h2⟩ := h.grow hfE k hk us T fr h0
    have hlt : E.ρ0 k < w.heap.size := (Array.getElem?_eq_some_iff.1 h1).1
    by_cases hx : ∃ i, i < ρc.length ∧ E.ρ0 k = ρ (ρc.getD i 0)
    · obtain ⟨i, hi', he⟩ := hx
      obtain ⟨us2, T2, fr2, h4, h5⟩ := hroom i hi' us1 T1 fr1 (by rw [← he]; exact h1)
      exact ⟨us2, T2, fr2, by rw [he]; exact h4, Nat.le_trans h2 h5⟩
    · exact ⟨us1, T1, fr1, (hframe' _ hlt fun i hi' e => hx ⟨i, hi', e⟩).trans h1, h2⟩
  refine { os := h'.os.trans h.os, tape := h'.tape.trans h.tape, output := h'.output.trans h.output, size := Nat.le_trans h.size hsz, frame := ?_, okB := h.okB, zB := h.zB, place := ?_, inj := ?_, stay := ?_, obj := ?_, fl := h'.fl,
           nf := Nat.le_trans h.nf h'.nf, A0 := ?_, fam := ?_, env := fun t => (h.env t).stay kp href, tsize := h.tsize, defers := h.defers.move kp, fix := fun hfx k hk ha => h.fix hfx k hk ((halive k).1 ha), grow := ggrow, pins := fun p hp => ⟨(h.pins p hp).1, (kp.okw _ (.inl (h.pins p hp).1)).trans (h.pins p hp).2⟩ }
  · intro b hb hn
    rw [hframe' b (Nat.lt_of_lt_of_le hb h.size) fun i hi e => ?_]
    · exact h.frame b hb hn
    · rcases (h.place _ (hal _ (hmem hi))).2 with h1 | h1
      · omega
      · exact hn _ h1.1 (by omega)
  · intro k hk
    have ha := (halive k).1 hk
    exact ⟨Nat.lt_of_lt_of_le (h.place k ha).1 hsz, (h.place k ha).2⟩
  · intro k j hk hj hkj
    exact h.inj k j ((halive k).1 hk) ((halive j).1 hj) hkj
  · intro k cs hk hcs
    have hcs : inH ρc S.H hs k = .cells cs := hcs
    unfold inH at hcs
    cases hq : ρc.idxOf? k with
    | none => rw [hq] at hcs; exact h.stay k cs hk hcs
    | some i =>
      rw [hq] at hcs
      obtain ⟨_, ⟨n, h4⟩, _⟩ := hi i (hgetD hq).1
      have hcs : listH hs i = .cells cs := hcs
      rw [hcs] at h4
      cases h4
  · intro k
    show RepO (ctxOf E (inH ρc S.H hs) w' ρ A') k (inH ρc S.H hs k)
    unfold inH
    cases hq : ρc.idxOf? k with
    | none =>
      by_cases ha : alive S.H k
      · have := (h.obj k).move kp (fun r => r) href (k' := k) (by exact hsame k ha (List.idxOf?_eq_none_iff.1 hq))
        rw [show mapO (fun r => r) (S.H k) = S.H k from by
          cases S.H k with
          | cells cs =>
            have e : mapC (fun r => r) = id := funext (mapC_id fun _ => rfl)
            simp [mapO, e]
          | _ => rfl] at this
        exact this
      · have hd : S.H k = .dead := Classical.byContradiction ha
        show RepO _ k (S.H k)
        rw [hd]; trivial
    | some i =>
      obtain ⟨h1, h2⟩ := hgetD hq
      obtain ⟨_, ⟨n, h4⟩, h5⟩ := hi i h1
      obtain ⟨okr, hokr, ho⟩ : ∃ okr : Nat → Prop, (∀ b, okr b → okOf E (inH ρc S.H hs) w' ρ b) ∧ RepO { ctxOf (calleeE E S w ρ A ρc vs true) (listH hs) w' ρ' A' with ok := okr } i (listH hs i) := by
        rcases h5 with h5 | h5
        · refine ⟨okOf (calleeE E S w ρ A ρc vs true) (listH hs) w' ρ', fun b hb => ?_, h'.obj i⟩
          rcases hb with (hb | ⟨k', hk', _⟩) | ⟨g1, g2, g3, g4⟩
          · exact kp.ok b hb
          · rw [h5] at hk'; cases hk'
          · have g1 : w.heap.size ≤ b := g1
            refine .inr ⟨Nat.le_trans h.size g1, g2, fun k' hk' => ?_, g4⟩
            have := (h.place k' ((halive k').1 hk')).1
            omega
        · exact ⟨fun _ => False, fun _ hb => hb.elim, roFreeO_rep h5 (h'.obj i)⟩
      have kp1 : Keeps { ctxOf (calleeE E S w ρ A ρc vs true) (listH hs) w' ρ' A' with ok := okr } (ctxOf E (inH ρc S.H hs) w' ρ A') :=
        ⟨hokr, fun _ _ => rfl, fun _ hb => hb, fun _ _ => rfl, Nat.le_refl _, fun _ _ => rfl⟩
      have hm := ho.move kp1 (fun _ => .any) (fun r v _ _ => .any v) (k' := k) (by show w'.heap[ρ k]? = w'.heap[ρ' i]?; rw [hρ i h1, h2])
      have he : mapO (fun _ => AV.any) (listH hs i) = listH hs i := by
        cases hq' : listH hs i with
        | cells cs => rw [hq'] at h4; cases h4
        | _ => rfl
      rw [he] at hm
      exact hm
  · intro f hf
    rw [← h.A0 f hf]
    exact h'.A0 f (Nat.lt_of_lt_of_le hf h.nf)
  · intro f fam hf
    exact (h.fam f fam hf).move kp (h.fam_lt hf)
end Go.Vc
