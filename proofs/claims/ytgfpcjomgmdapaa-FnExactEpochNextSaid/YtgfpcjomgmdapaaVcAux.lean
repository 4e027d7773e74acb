/-
The operations that make a value out of parts: a struct's literal, a slice expression, a length.
No conditions.
-/
import Derived.Test.YtgfpcjomgmdapaaVcVal
namespace Go.Vc
variable {P : Program} {T : TT} {E : Entry} {H : Nat → AO} {F : List Fam} {w : World} {ρ : Nat → Nat} {A : FA} {K : AV → Prop} {D : World → Prop}

def splice {α : Type} (l : List α) (o : Nat) (x : List α) : List α := l.take o ++ (x ++ l.drop (o + x.length))

/-- The parts laid into the cells. -/
def fillA (place : Nat → Option (Nat × Nat)) (cells : List AV) : List (Nat × AV) → (List AV → Prop) → Prop
  | [], K => K cells
  | (i, x) :: r, K => match place i, cellsOf x with
    | some (o, s), some cs => cs.length = s ∧ o + s ≤ cells.length ∧ fillA place (splice cells o cs) r K
    | _, _ => False

def buildA (T : TT) (t : TypeId) (parts : List (Nat × AV)) (K : AV → Prop) : Prop :=
  match T t with
  | some ti =>
    if ti.kind = 3 then fillA (fun i => ti.fields[i]?) (ti.zero.map .val) parts fun cs => K (.agg cs)
    else ti.kind = 2 ∧ match T ti.elem with
      | some te => fillA (fun i => some (i * te.size, te.size)) (ti.zero.map .val) parts fun cs => K (.agg cs)
      | none => False
  | none => False

/-- The bounds of a slice expression: 'k' takes low and high. -/
def boundsA (len : Nat) (lo hi : Option AV) (k : Nat → Nat → Prop) : Prop :=
  match lo, hi with
  | none, none => k 0 len
  | some (.val (.int _ a)), none => 0 ≤ a ∧ a ≤ len ∧ k a.toNat len
  | none, some (.val (.int _ b)) => 0 ≤ b ∧ b ≤ len ∧ k 0 b.toNat
  | some (.val (.int _ a)), some (.val (.int _ b)) => 0 ≤ a ∧ a ≤ b ∧ b ≤ len ∧ k a.toNat b.toNat
  | _, _ => False

def sliceA (T : TT) (H : Nat → AO) (t : TypeId) (x : AV) (lo hi : Option AV) (K : AV → Prop) : Prop :=
  match T t with
  | some ti => match x with
    | .ints l => ti.kind = 1 ∧ (∃ te, T ti.elem = some te ∧ te.size = 1) ∧ boundsA l.length lo hi fun a b => K (.ints ((l.drop a).take (b - a)))
    | .bytes l => ti.kind = 1 ∧ (∃ te, T ti.elem = some te ∧ te.size = 1) ∧ boundsA l.length lo hi fun a b => K (.bytes ((l.drop a).take (b - a)))
    | .sl sz l => ti.kind = 1 ∧ (∃ te, T ti.elem = some te ∧ te.size = sz) ∧ boundsA l.length lo hi fun a b => K (.sl sz ((l.drop a).take (b - a)))
    | .own k => ti.kind = 1 ∧ match (H k).info with
      | some (sz, n) => (∃ te, T ti.elem = some te ∧ te.size = sz) ∧ boundsA n lo hi fun a b => K (.sub k a b)
      | none => False
    | .sub k p q => ti.kind = 1 ∧ match (H k).info with
      | some (sz, _) => (∃ te, T ti.elem = some te ∧ te.size = sz) ∧ boundsA (q - p) lo hi fun a b => K (.sub k (p + a) (p + b))
      | none => False
    | .ptr k off => ti.kind = 2 ∧ lo = none ∧ hi = none ∧ (∃ te, T ti.elem = some te ∧ te.size = 1) ∧ match H k with
      | .cells cs => off + ti.alen ≤ cs.length ∧ K (.win k off ti.alen)
      | _ => False
    | .val (.slice none 0 0) => ti.kind = 1 ∧ (∃ te, T ti.elem = some te) ∧ boundsA 0 lo hi fun _ _ => K (.val (.slice none 0 0))
    | .val (.string s) => ti.kind = 4 ∧ boundsA s.size lo hi fun a b => K (.val (.string (s.extract a b)))
    | _ => False
  | none => False

/-- The pieces of the operations above. -/
def auxA (T : TT) (H : Nat → AO) (EV : Operand → AV) (op : Op) (K : AV → Prop) : Prop :=
  match op with
  | .build t parts => buildA T t (parts.toList.map fun p => (p.1, EV p.2)) K
  | .slice t x lo hi none => sliceA T H t (EV x) (lo.map EV) (hi.map EV) K
  | .call { callee := .builtin .len, args, argTypes } => match args.toList, argTypes.toList with
    | [x], [t] => match T t with
      | some ti => if ti.kind = 1 then lenA H (EV x) K else ti.kind = 4 ∧ match EV x with
        | .val (.string s) => K (I s.size)
        | _ => False
      | none => False
    | _, _ => False
  | _ => False

theorem length_splice {α : Type} (l : List α) (o : Nat) (x : List α) (h : o + x.length ≤ l.length) : (splice l o x).length = l.length := by
  simp [splice]; omega

theorem RepL.splice {c : Ctx} {cs ds : List AV} {vs us : List Value} (h : RepL c cs vs) (k : RepL c ds us) (o : Nat) : RepL c (splice cs o ds) (splice vs o us) := by
  unfold Vc.splice
  rw [k.1]
  exact (h.take o).append (k.append (h.drop _))

/-- The model lays a part's cells one by one. -/
theorem fold_splice : ∀ (vs : List Value) (o i : Nat) (cs : Array Value), o + i + vs.length ≤ cs.size →
    ((vs.zipIdx i).foldl (fun (cs : Array Value) (p : Value × Nat) => cs.setIfInBounds (o + p.2) p.1) cs).toList = splice cs.toList (o + i) vs
  | [], o, i, cs, _ => by simp [splice]
  | v :: r, o, i, cs, h => by
    simp only [List.zipIdx_cons, List.foldl_cons]
    rw [fold_splice r o (i + 1) (cs.setIfInBounds (o + i) v) (by simp at h ⊢; omega)]
    simp only [splice, Array.toList_setIfInBounds]
    have hstep := list_seg_step cs.toList (o + i) v r (by simp at h ⊢; omega)
    simpa [Nat.add_assoc, List.append_assoc] using hstep

theorem fillA_sound {c : Ctx} {place : Nat → Option (Nat × Nat)} : ∀ (parts : List (Nat × AV)) (vals : List (Nat × Value)) (cells : List AV) (vs : Array Value) {K : List AV → Prop},
    parts.length = vals.length → (∀ (j : Nat) p q, parts[j]? = some p → vals[j]? = some q → p.1 = q.1 ∧ RepV c p.2 q.2) → RepL c cells vs.toList → fillA place cells parts K →
    ∃ out cs, Instr.fill place vs vals = some out ∧ K cs ∧ RepL c cs out.toList
  | [], [], cells, vs, K, _, _, hr, h => ⟨vs, cells, rfl, h, hr⟩
  | [], _ :: _, _, _, _, hl, _, _, _ => by simp at hl
  | _ :: _, [], _, _, _, hl, _, _, _ => by simp at hl
  | (i, x) :: r, (i', v) :: rv, cells, vs, K, hl, hp, hr, h => by
    have h0 := hp 0 (i, x) (i', v) rfl rfl
    simp only at h0
    obtain ⟨rfl, hx⟩ := h0
    unfold fillA at h
    split at h
    case h_2 => exact h.elim
    case h_1 o s cs hpl hcs =>
      obtain ⟨h1, h2, h3⟩ := h
      have hcr := cellsOf_rep hcs hx
      have hlen : v.cells.size = s := by have := hcr.1; simp at this; omega
      have hvl : vs.size = cells.length := by have := hr.1; simpa using this
      have hfold := fold_splice v.cells.toList o 0 vs (by simp; omega)
      have hnot : ¬ ((v.cells.size ≠ s || decide (o + v.cells.size > vs.size)) = true) := by
        simp only [ne_eq, Bool.or_eq_true, decide_eq_true_eq, not_or]
        omega
      obtain ⟨out, cs', hf, hK, hrr⟩ := fillA_sound r rv (splice cells o cs) (v.cells.zipIdx.foldl (fun (cs : Array Value) (p : Value × Nat) => cs.setIfInBounds (o + p.2) p.1) vs) (by simpa using hl)
        (fun j p q hpj hqj => hp (j + 1) p q (by simpa using hpj) (by simpa using hqj)) (by
          have e : (v.cells.zipIdx.foldl (fun (cs : Array Value) (p : Value × Nat) => cs.setIfInBounds (o + p.2) p.1) vs).toList = splice vs.toList o v.cells.toList := by
            rw [← Array.foldl_toList, Array.toList_zipIdx]
            simpa using hfold
          rw [e]
          exact hr.splice hcr o) h3
      refine ⟨out, cs', ?_, hK, hrr⟩
      unfold Instr.fill
      simp only [hpl]
      rw [if_neg (by simpa using hnot)]
      exact hf

theorem run_fields (w : World) : ∀ (fs : List Field), (∀ f ∈ fs, 0 < P.cellsOf f.type) → (fs.mapM fun f => Prod.mk f.offset <$> sizeOf f.type).run P w = .ok (fs.map fun f => (f.offset, P.cellsOf f.type)) w
  | [], _ => by simp
  | f :: fs, h => by
    have hf := h f (by simp)
    have hi : ∃ i, P.info? f.type = some i := by
      cases hq : P.info? f.type with
      | none => simp [Program.cellsOf, hq] at hf
      | some i => exact ⟨i, rfl⟩
    obtain ⟨i, hi⟩ := hi
    have hs : (sizeOf f.type).run P w = .ok (P.cellsOf f.type) w := by simp [sizeOf, typeInfo, hi, Program.cellsOf]
    simp [List.mapM_cons, hs, run_fields w fs fun g hg => h g (by simp [hg])]

theorem buildA_sound {c : Ctx} (hT : TOk P T) {t : TypeId} {parts : List (Nat × AV)} {vals : List (Nat × Value)} (hl : parts.length = vals.length)
    (hp : ∀ (j : Nat) p q, parts[j]? = some p → vals[j]? = some q → p.1 = q.1 ∧ RepV c p.2 q.2) (h : buildA T t parts K) : Yields P c D (Instr.build t vals.toArray) K := by
  unfold buildA at h
  split at h
  case h_2 => exact h.elim
  case h_1 ti ht =>
    have ty := hT t ti ht
    obtain ⟨inf, z, hi, hsz, hby, hz, hzc⟩ := ty.info
    have hz0 : (ti.zero.map AV.val).length = z.cells.size := by rw [← hzc]; simp
    have hzr : RepL c (ti.zero.map .val) z.cells.toList := by rw [hzc]; exact zero_rep ty.one
    split at h
    · rename_i hk
      obtain ⟨fs, hu, hfl, hfs⟩ := ty.struct hk
      obtain ⟨out, cs, hf, hK, hr⟩ := fillA_sound parts vals _ z.cells hl hp hzr h
      refine ⟨.agg out, .agg cs, hK, ?_, ?_⟩
      · have := hr.agg; simpa using this
      · intro w' _
        have hrun := run_fields (P := P) w' fs.toList fun f hf => hfs f (by simpa using hf)
        rw [← hfl] at hrun
        have hpl : (fun i : Nat => ti.fields[i]?) = fun x => ti.fields.toArray[x]? := by funext i; simp
        rw [hpl] at hf
        simp [Instr.build, run_underlying hu, typeInfo, zeroValue, hi, hz, Array.mapM_eq_mapM_toList, hrun]
        simp only [List.getElem?_toArray] at hf
        simp [hf]
    · split at h
      case h_2 => exact h.2.elim
      case h_1 te hte =>
        have hu := ty.array h.1
        have hse := fun w' : World => size_of hT hte w'
        obtain ⟨out, cs, hf, hK, hr⟩ := fillA_sound parts vals _ z.cells hl hp hzr h.2
        refine ⟨.agg out, .agg cs, hK, ?_, ?_⟩
        · have := hr.agg; simpa using this
        · intro w' _; simp [Instr.build, run_underlying hu, typeInfo, zeroValue, hi, hz, hse w', hf]

/-- The bounds as the model reckons them, for a slice (true) or a string (false). -/
theorem boundsA_sound {c : Ctx} {len cap : Nat} (hc : len ≤ cap) {b : Bool} {lo hi : Option AV} {vlo vhi : Option Value} {k : Nat → Nat → Prop} (h : boundsA len lo hi k)
    (hlo : ∀ x v, lo = some x → vlo = some v → RepV c x v) (hlo' : lo.isSome = vlo.isSome) (hhi : ∀ x v, hi = some x → vhi = some v → RepV c x v) (hhi' : hi.isSome = vhi.isSome) :
    ∃ p q, k p q ∧ p ≤ q ∧ q ≤ len ∧ ∀ w' : World, (Instr.sliceBounds b len cap vlo vhi none).run P w' = .ok (p, q, cap) w' := by
  unfold boundsA at h
  split at h
  case h_5 => exact h.elim
  case h_1 =>
    cases vlo with
    | some _ => simp at hlo'
    | none =>
      cases vhi with
      | some _ => simp at hhi'
      | none => exact ⟨0, len, h, Nat.zero_le _, Nat.le_refl _, fun w' => by simp [Instr.sliceBounds]⟩
  case h_2 ka a =>
    cases vhi with
    | some _ => simp at hhi'
    | none =>
      cases vlo with
      | none => simp at hlo'
      | some v =>
        have hr := hlo _ v rfl rfl
        cases hr
        obtain ⟨h0, h1, h2⟩ := h
        exact ⟨a.toNat, len, h2, by omega, Nat.le_refl _, fun w' => by simp [Instr.sliceBounds, Instr.sliceBound, asIntOf, h0, h1]⟩
  case h_3 kb q =>
    cases vlo with
    | some _ => simp at hlo'
    | none =>
      cases vhi with
      | none => simp at hhi'
      | some v =>
        have hr := hhi _ v rfl rfl
        cases hr
        obtain ⟨h0, h1, h2⟩ := h
        have h3 : q ≤ (cap : Int) := by omega
        exact ⟨0, q.toNat, h2, by omega, by omega, fun w' => by simp [Instr.sliceBounds, Instr.sliceBound, asIntOf, h0, h3]⟩
  case h_4 ka a kb q =>
    cases vlo with
    | none => simp at hlo'
    | some v =>
      cases vhi with
      | none => simp at hhi'
      | some v' =>
        have hr := hlo _ v rfl rfl
        have hr' := hhi _ v' rfl rfl
        cases hr
        cases hr'
        obtain ⟨h0, h1, h2, h3⟩ := h
        have h4 : q ≤ (cap : Int) := by omega
        have h5 : 0 ≤ q := by omega
        exact ⟨a.toNat, q.toNat, h3, by omega, by omega, fun w' => by
          have h7 : ¬ (max q 0 < a) := by omega
          simp [Instr.sliceBounds, Instr.sliceBound, asIntOf, h0, h4, h5, h7]⟩

theorem run_slice_sl {t e : TypeId} (hu : P.underlying t = some (.slice e)) {w : World} {sz : Nat} (hs : (sizeOf e).run P w = .ok sz w) {a : Option Addr} {len cap p q : Nat} {vlo vhi : Option Value}
    (hb : (Instr.sliceBounds true len cap vlo vhi none).run P w = .ok (p, q, cap) w) :
    (Instr.sliceAt t (.slice a len cap) vlo vhi none).run P w = .ok (.slice (if cap = p then a else a.map (·.add (p * sz))) (q - p) (cap - p)) w := by
  simp [Instr.sliceAt, Instr.slice, run_underlying hu, hb, hs]

theorem RepV.sl_cut {c : Ctx} {sz : Nat} {l : List (List AV)} {a : Option Addr} {len cap p q : Nat} (h : RepV c (.sl sz l) (.slice a len cap)) (hp : p ≤ q) (hq : q ≤ l.length) :
    RepV c (.sl sz ((l.drop p).take (q - p))) (.slice (if cap = p then a else a.map (·.add (p * sz))) (q - p) (cap - p)) := by
  by_cases hpq : p = q
  · subst hpq
    simp only [Nat.sub_self, List.take_zero]
    exact .sl0 _ _ _
  · cases h with
    | sl0 => simp at hq; omega
    | sl _ _ b off _ vf hok hcap hl hc hh =>
      have hcp : ¬ (cap = p) := by omega
      rw [if_neg hcp]
      simp only [Option.map_some, add_none]
      have hlen : ((l.drop p).take (q - p)).length = q - p := by simp; omega
      have hg : ∀ (i : Nat) e, ((l.drop p).take (q - p))[i]? = some e → l[p + i]? = some e := by
        intro i e hi
        rw [List.getElem?_take] at hi
        split at hi
        · rw [List.getElem?_drop] at hi; exact hi
        · cases hi
      have := RepV.sl (c := c) sz ((l.drop p).take (q - p)) b (off + p * sz) (cap - p) (fun i j => vf (p + i) j) hok (by rw [hlen]; omega) (fun i e hi => hl _ e (hg i e hi))
        (fun i e j a hi hj => by
          have := hc _ e j a (hg i e hi) hj
          have e1 : off + p * sz + i * sz + j = off + (p + i) * sz + j := by rw [Nat.add_mul]; omega
          rw [e1]; exact this)
        (fun i e j a hi hj => hh _ e j a (hg i e hi) hj)
      rw [hlen] at this
      exact this

theorem icells_cut (l : List Int) (p n : Nat) : icells ((l.drop p).take n) = ((icells l).drop p).take n := by simp [icells, List.map_take, List.map_drop]
theorem icells_length (l : List Int) : (icells l).length = l.length := by simp [icells]

theorem RepV.ints_slice {c : Ctx} {l : List Int} {v : Value} (h : RepV c (.ints l) v) : ∃ a cap, v = .slice a l.length cap ∧ l.length ≤ cap ∧ RepV c (.sl 1 (icells l)) (.slice a l.length cap) := by
  cases h with
  | ints l v h' =>
    have hl := icells_length l
    revert hl h'
    generalize icells l = cs
    intro h' hl
    cases h' with
    | sl0 sz a cap => simp at hl; exact ⟨a, cap, by rw [← hl], by omega, by rw [← hl]; exact .sl0 1 a cap⟩
    | sl _ _ b off cap vf hok hcap hl' hc hh => exact ⟨_, cap, by rw [hl], by omega, by rw [← hl]; exact .sl 1 cs b off cap vf hok hcap hl' hc hh⟩

theorem RepV.sl_slice {c : Ctx} {sz : Nat} {l : List (List AV)} {v : Value} (h : RepV c (.sl sz l) v) : ∃ a cap, v = .slice a l.length cap ∧ l.length ≤ cap := by
  cases h with
  | sl0 sz a cap => exact ⟨a, cap, rfl, Nat.zero_le _⟩
  | sl _ _ b off cap vf hok hcap hl' hc hh => exact ⟨_, cap, rfl, hcap⟩

theorem sliceA_sound (hT : TOk P T) (hob : ∀ k, RepO (ctxOf E H w ρ A) k (H k)) {t : TypeId} {x : AV} {u : Value} {lo hi : Option AV} {vlo vhi : Option Value} (h : sliceA T H t x lo hi K) (hx : RepV (ctxOf E H w ρ A) x u)
    (hlo : ∀ x v, lo = some x → vlo = some v → RepV (ctxOf E H w ρ A) x v) (hlo' : lo.isSome = vlo.isSome) (hhi : ∀ x v, hi = some x → vhi = some v → RepV (ctxOf E H w ρ A) x v) (hhi' : hi.isSome = vhi.isSome) :
    Yields P (ctxOf E H w ρ A) D (Instr.sliceAt t u vlo vhi none) K := by
  unfold sliceA at h
  split at h
  case h_2 => exact h.elim
  case h_1 ti ht =>
    have ty := hT t ti ht
    split at h
    case h_9 => exact h.elim
    case h_6 k off =>
      obtain ⟨hk, rfl, rfl, ⟨te, hte, hsz⟩, h⟩ := h
      split at h
      case h_2 => exact h.elim
      case h_1 cs hcs =>
        obtain ⟨hle, hK⟩ := h
        have hlo2 : vlo = none := by cases vlo <;> simp at hlo' ⊢
        have hhi2 : vhi = none := by cases vhi <;> simp at hhi' ⊢
        subst hlo2 hhi2
        have ho := hob k
        rw [hcs] at ho
        obtain ⟨vs, T', h1, h2, _, _⟩ := ho
        cases hx
        refine ⟨.slice (some ⟨ρ k, off, none⟩) ti.alen ti.alen, _, hK, .win k off ti.alen ti.alen cs hcs (Nat.le_refl _) ⟨vs, T', (0, 0), h1, by omega⟩, fun w' _ => ?_⟩
        have hse := size_of hT hte w'
        simp [Instr.sliceAt, run_underlying (ty.array hk), Instr.sliceBounds, Instr.sureAddr, hse, add_none]
    case h_1 l =>
      obtain ⟨hk, ⟨te, hte, hsz⟩, h⟩ := h
      obtain ⟨a, cap, rfl, hcap, hr⟩ := hx.ints_slice
      obtain ⟨p, q, hK, hpq, hq, hb⟩ := boundsA_sound (P := P) (b := true) hcap h hlo hlo' hhi hhi'
      refine ⟨_, _, hK, ?_, fun w' _ => run_slice_sl (ty.slice hk) (size_of hT hte _) (hb w')⟩
      rw [hsz]
      have := hr.sl_cut hpq (by rw [icells_length]; exact hq)
      rw [← icells_cut] at this
      exact .ints _ _ this
    case h_2 l =>
      obtain ⟨hk, ⟨te, hte, hsz⟩, h⟩ := h
      have hs : ∃ a cap, u = .slice a l.length cap ∧ l.length ≤ cap := by
        cases hx with
        | bytes0 a cap => exact ⟨a, cap, rfl, Nat.zero_le _⟩
        | bytes l b off cap hz hcap hc => exact ⟨_, cap, rfl, hcap⟩
      obtain ⟨a, cap, rfl, hcap⟩ := hs
      obtain ⟨p, q, hK, hpq, hq, hb⟩ := boundsA_sound (P := P) (b := true) hcap h hlo hlo' hhi hhi'
      refine ⟨_, _, hK, ?_, fun w' _ => run_slice_sl (ty.slice hk) (size_of hT hte _) (hb w')⟩
      rw [hsz]
      by_cases hpq' : p = q
      · subst hpq'
        simp only [Nat.sub_self, List.take_zero]
        exact .bytes0 _ _
      · generalize hlen : l.length = len at hx hcap hq hb
        cases hx with
        | bytes0 => simp at hlen; omega
        | bytes _ b off _ hz hcap' hc =>
          have hcp : ¬ (cap = p) := by omega
          rw [if_neg hcp]
          simp only [Option.map_some, add_none, Nat.mul_one]
          have hlen' : ((l.drop p).take (q - p)).length = q - p := by simp; omega
          have := RepV.bytes (c := ctxOf E H w ρ A) ((l.drop p).take (q - p)) b (off + p) (cap - p) hz (by rw [hlen']; omega) (fun i x hi => by
            rw [List.getElem?_take] at hi
            split at hi
            · rw [List.getElem?_drop] at hi
              have := hc _ x hi
              rw [Nat.add_assoc]; exact this
            · cases hi)
          rw [hlen'] at this
          exact this
    case h_3 sz l =>
      obtain ⟨hk, ⟨te, hte, hsz⟩, h⟩ := h
      obtain ⟨a, cap, rfl, hcap⟩ := hx.sl_slice
      obtain ⟨p, q, hK, hpq, hq, hb⟩ := boundsA_sound (P := P) (b := true) hcap h hlo hlo' hhi hhi'
      refine ⟨_, _, hK, ?_, fun w' _ => run_slice_sl (ty.slice hk) (size_of hT hte _) (hb w')⟩
      rw [hsz]
      exact hx.sl_cut hpq hq
    case h_4 k =>
      obtain ⟨hk, h⟩ := h
      cases hx with
      | own _ sz n cap hinf hcap hr =>
        have hinf' : (H k).info = some (sz, n) := hinf
        rw [hinf'] at h
        obtain ⟨⟨te, hte, hsz⟩, h⟩ := h
        obtain ⟨p, q, hK, hpq, hq, hb⟩ := boundsA_sound (P := P) (b := true) hcap.1 h hlo hlo' hhi hhi'
        refine ⟨_, _, hK, ?_, fun w' _ => run_slice_sl (ty.slice hk) (size_of hT hte _) (hb w')⟩
        rw [hsz]
        by_cases hcp : cap = p
        · rw [if_pos hcp]
          exact .sub k sz n p q 0 (cap - p) hinf hpq hq (by omega) (by rw [show p + (cap - p) = cap by omega]; exact hr) (by
            by_cases hp0 : p = 0
            · left; rw [hp0, Nat.zero_mul]
            · right; omega)
        · rw [if_neg hcp]
          simp only [Option.map_some, add_none, Nat.zero_add]
          exact .sub k sz n p q _ (cap - p) hinf hpq hq (by omega) (by rw [show p + (cap - p) = cap by omega]; exact hr) (.inl rfl)
    case h_5 k lo' hi' =>
      obtain ⟨hk, h⟩ := h
      cases hx with
      | sub _ sz n _ _ o cap hinf h1 h2 hcap hr ho =>
        have hinf' : (H k).info = some (sz, n) := hinf
        rw [hinf'] at h
        obtain ⟨⟨te, hte, hsz⟩, h⟩ := h
        obtain ⟨p, q, hK, hpq, hq, hb⟩ := boundsA_sound (P := P) (b := true) hcap.1 h hlo hlo' hhi hhi'
        refine ⟨_, _, hK, ?_, fun w' _ => run_slice_sl (ty.slice hk) (size_of hT hte _) (hb w')⟩
        rw [hsz]
        have e1 : q - p = lo' + q - (lo' + p) := by omega
        rw [e1]
        by_cases hcp : cap = p
        · rw [if_pos hcp]
          exact .sub k sz n (lo' + p) (lo' + q) o (cap - p) hinf (by omega) (by omega) (by omega) (by rw [show lo' + p + (cap - p) = lo' + cap by omega]; exact hr) (by
            by_cases hp0 : lo' + p = 0
            · left
              rw [hp0, Nat.zero_mul]
              rcases ho with ho | ho
              · rw [ho, show lo' = 0 by omega, Nat.zero_mul]
              · omega
            · right; omega)
        · rw [if_neg hcp]
          simp only [Option.map_some, add_none]
          refine .sub k sz n (lo' + p) (lo' + q) _ (cap - p) hinf (by omega) (by omega) (by omega) (by rw [show lo' + p + (cap - p) = lo' + cap by omega]; exact hr) (.inl ?_)
          have : o = lo' * sz := by rcases ho with ho | ho <;> omega
          rw [this, Nat.add_mul]
    case h_7 =>
      obtain ⟨hk, ⟨te, hte⟩, h⟩ := h
      cases hx
      obtain ⟨p, q, hK, hpq, hq, hb⟩ := boundsA_sound (P := P) (cap := 0) (b := true) (Nat.le_refl _) h hlo hlo' hhi hhi'
      have hp0 : p = 0 := by omega
      have hq0 : q = 0 := by omega
      subst hp0 hq0
      exact ⟨_, _, hK, .val _, fun w' _ => by rw [run_slice_sl (ty.slice hk) (size_of hT hte _) (hb w')]; simp⟩
    case h_8 s =>
      cases hx
      obtain ⟨p, q, hK, hpq, hq, hb⟩ := boundsA_sound (P := P) (cap := s.size) (b := false) (Nat.le_refl _) h.2 hlo hlo' hhi hhi'
      have hu := ty.string h.1
      exact ⟨_, _, hK, .val _, fun w' _ => by simp [Instr.sliceAt, Instr.slice, run_underlying hu, hb]⟩

theorem auxA_sound (hT : TOk P T) (hob : ∀ k, RepO (ctxOf E H w ρ A) k (H k)) {o : Oper} {EV : Operand → AV} {a : Act} (hev : ∀ x, RepV (ctxOf E H w ρ A) (EV x) (a.eval x)) (h : auxA T H EV o.op K) :
    ∃ v x, K x ∧ RepV (ctxOf E H w ρ A) x v ∧ ∀ w', (execOp a.eval o).run P w' = .ok (.value v) w' := by
  have fin : ∀ {s : Sem Value}, Yields P (ctxOf E H w ρ A) (fun _ => True) s K → execOp a.eval o = (do pure (.value (← s))) → ∃ v x, K x ∧ RepV (ctxOf E H w ρ A) x v ∧ ∀ w', (execOp a.eval o).run P w' = .ok (.value v) w' := by
    rintro s ⟨v, x, hK, hr, hrun⟩ he
    refine ⟨v, x, hK, hr, fun w' => ?_⟩
    rw [he, Sem.run_bind, hrun w' trivial]
    rfl
  unfold auxA at h
  split at h
  case h_4 => exact h.elim
  case h_1 op t parts hop =>
    refine fin (buildA_sound (vals := (parts.toList.map fun p => (p.1, a.eval p.2))) hT (by simp) (fun j p q hp hq => ?_) h) ?_
    · rw [List.getElem?_map] at hp hq
      obtain ⟨p0, hp0, rfl⟩ := Option.map_eq_some_iff.1 hp
      rw [hp0] at hq
      simp at hq
      subst hq
      exact ⟨rfl, hev _⟩
    · have e : (parts.toList.map fun p => (p.1, a.eval p.2)).toArray = parts.map fun p => (p.1, a.eval p.2) := by
        apply Array.ext'; simp
      rw [e]
      simp [execOp, hop]
  case h_2 op t x lo hi hop =>
    refine fin (sliceA_sound (vlo := lo.map a.eval) (vhi := hi.map a.eval) hT hob h (hev x) (fun y v hy hv => ?_) (by simp) (fun y v hy hv => ?_) (by simp)) (by simp [execOp, hop])
    · obtain ⟨z, hz, rfl⟩ := Option.map_eq_some_iff.1 hy
      rw [hz] at hv
      simp at hv
      subst hv
      exact hev z
    · obtain ⟨z, hz, rfl⟩ := Option.map_eq_some_iff.1 hy
      rw [hz] at hv
      simp at hv
      subst hv
      exact hev z
  case h_3 op args argTypes hop =>
    split at h
    case h_2 => exact h.elim
    case h_1 x t hargs htys =>
      have ha : args = #[x] := by apply Array.ext'; simpa using hargs
      have ht' : argTypes = #[t] := by apply Array.ext'; simpa using htys
      subst ha ht'
      split at h
      case h_2 => exact h.elim
      case h_1 ti ht =>
        have ty := hT t ti ht
        split at h
        · rename_i hk
          obtain ⟨n, y, hK, rfl, b, m, cap, hu, hm⟩ := lenA_sound h (hev x)
          refine ⟨_, _, hK, .val _, fun w' => ?_⟩
          simp [execOp, hop, resolve, invoke, builtin, hu, run_len (ty.slice hk), hm]
        · split at h
          case h_2 => exact h.2.elim
          case h_1 s hs =>
            have hx := hev x
            rw [hs] at hx
            generalize hu : a.eval x = u at hx
            cases hx
            refine ⟨_, _, h.2, .val _, fun w' => ?_⟩
            simp [execOp, hop, resolve, invoke, builtin, hu, Builtin.len_, run_underlying (ty.string h.1), goInt]
end Go.Vc
