/-
The operations that make a value out of parts: a struct's literal, a slice expression, a length.
Rows of elements as rows of cells: what an array object holds, laid flat; the model's append, by where its source lies.
The operations that make or write memory: what each asks and leaves, and that the model does so.
That the memory operations of the model do what the abstract ones say.
That the memory operations of the model do what the abstract ones say, second part: stores, rows, appends.
That the memory operations of the model do what the abstract ones say, third part: make and append.
No conditions.
-/
import Derived.Test.YtalbgcpfekmfoaaVcVal
namespace Go.Vc
variable {P : Program} {T : TT} {E : Entry} {H : Nat → AO} {F : List Fam} {w : World} {ρ : Nat → Nat} {A : FA} {K : AV → Prop} {D : World → Prop}

def splice {α : Type} (l : List α) (o : Nat) (x : List α) : List α := l.take o ++ (x ++ l.drop (o + x.length))

/-- The parts laid into the cells. -/
def fillA (place : Nat → Option (Nat × Nat)) (cells : List AV) : List (Nat × AV) → (List AV → Prop) → Prop
  | [], K => K cells
  | (i, x) :: r, K => match place i, cellsOf x with
    | some (o, s), some cs => cs.length = s ∧ o + s ≤ cells.length ∧ fillA place (splice cells o cs) r K
    | _, _ => False

def buildA (T : TT) (t : TypeId) (parts : List (Nat × AV)) (K : AV → Prop) : Prop :=
  match T t with
  | some ti =>
    if ti.kind = 3 then fillA (fun i => ti.fields[i]?) (ti.zero.map .val) parts fun cs => K (.agg cs)
    else ti.kind = 2 ∧ match T ti.elem with
      | some te => fillA (fun i => some (i * te.size, te.size)) (ti.zero.map .val) parts fun cs => K (.agg cs)
      | none => False
  | none => False

/-- The bounds of a slice expression: 'k' takes low and high. -/
def boundsA (len : Nat) (lo hi : Option AV) (k : Nat → Nat → Prop) : Prop :=
  match lo, hi with
  | none, none => k 0 len
  | some (.val (.int _ a)), none => 0 ≤ a ∧ a ≤ len ∧ k a.toNat len
  | none, some (.val (.int _ b)) => 0 ≤ b ∧ b ≤ len ∧ k 0 b.toNat
  | some (.val (.int _ a)), some (.val (.int _ b)) => 0 ≤ a ∧ a ≤ b ∧ b ≤ len ∧ k a.toNat b.toNat
  | _, _ => False

def sliceA (T : TT) (H : Nat → AO) (t : TypeId) (x : AV) (lo hi : Option AV) (K : AV → Prop) : Prop :=
  match T t with
  | some ti => match x with
    | .ints l => ti.kind = 1 ∧ (∃ te, T ti.elem = some te ∧ te.size = 1) ∧ boundsA l.length lo hi fun a b => K (.ints ((l.drop a).take (b - a)))
    | .bytes l => ti.kind = 1 ∧ (∃ te, T ti.elem = some te ∧ te.size = 1) ∧ boundsA l.length lo hi fun a b => K (.bytes ((l.drop a).take (b - a)))
    | .sl sz l => ti.kind = 1 ∧ (∃ te, T ti.elem = some te ∧ te.size = sz) ∧ boundsA l.length lo hi fun a b => K (.sl sz ((l.drop a).take (b - a)))
    | .own k => ti.kind = 1 ∧ match (H k).info with
      | some (sz, n) => (∃ te, T ti.elem = some te ∧ te.size = sz) ∧ boundsA n lo hi fun a b => K (.sub k a b)
      | none => False
    | .sub k p q => ti.kind = 1 ∧ match (H k).info with
      | some (sz, _) => (∃ te, T ti.elem = some te ∧ te.size = sz) ∧ boundsA (q - p) lo hi fun a b => K (.sub k (p + a) (p + b))
      | none => False
    | .ptr k off => ti.kind = 2 ∧ lo = none ∧ hi = none ∧ (∃ te, T ti.elem = some te ∧ te.size = 1) ∧ match H k with
      | .cells cs => off + ti.alen ≤ cs.length ∧ K (.win k off ti.alen)
      | _ => False
    | .val (.slice none 0 0) => ti.kind = 1 ∧ (∃ te, T ti.elem = some te) ∧ boundsA 0 lo hi fun _ _ => K (.val (.slice none 0 0))
    | .val (.string s) => ti.kind = 4 ∧ boundsA s.size lo hi fun a b => K (.val (.string (s.extract a b)))
    | _ => False
  | none => False

/-- The pieces of the operations above. -/
def auxA (T : TT) (H : Nat → AO) (EV : Operand → AV) (op : Op) (K : AV → Prop) : Prop :=
  match op with
  | .build t parts => buildA T t (parts.toList.map fun p => (p.1, EV p.2)) K
  | .slice t x lo hi none => sliceA T H t (EV x) (lo.map EV) (hi.map EV) K
  | .call { callee := .builtin .len, args, argTypes } => match args.toList, argTypes.toList with
    | [x], [t] => match T t with
      | some ti => if ti.kind = 1 then lenA H (EV x) K else ti.kind = 4 ∧ match EV x with
        | .val (.string s) => K (I s.size)
        | _ => False
      | none => False
    | _, _ => False
  | .call { callee := .builtin .max, args, argTypes := _ } => match args.toList with
    | [x, y] => match EV x, EV y with
      | .val (.int k m), .val (.int _ n) => ∀ v : Int, (v = m ∨ v = n) → m ≤ v → n ≤ v → K (.val (.int k v))
      | _, _ => False
    | _ => False
  | _ => False

theorem length_splice {α : Type} (l : List α) (o : Nat) (x : List α) (h : o + x.length ≤ l.length) : (splice l o x).length = l.length := by
  simp [splice]; omega

theorem RepL.splice {c : Ctx} {cs ds : List AV} {vs us : List Value} (h : RepL c cs vs) (k : RepL c ds us) (o : Nat) : RepL c (splice cs o ds) (splice vs o us) := by
  unfold Vc.splice
  rw [k.1]
  exact (h.take o).append (k.append (h.drop _))

/-- The model lays a part's cells one by one. -/
theorem fold_splice : ∀ (vs : List Value) (o i : Nat) (cs : Array Value), o + i + vs.length ≤ cs.size →
    ((vs.zipIdx i).foldl (fun (cs : Array Value) (p : Value × Nat) => cs.setIfInBounds (o + p.2) p.1) cs).toList = splice cs.toList (o + i) vs
  | [], o, i, cs, _ => by simp [splice]
  | v :: r, o, i, cs, h => by
    simp only [List.zipIdx_cons, List.foldl_cons]
    rw [fold_splice r o (i + 1) (cs.setIfInBounds (o + i) v) (by simp at h ⊢; omega)]
    simp only [splice, Array.toList_setIfInBounds]
    have hstep := list_seg_step cs.toList (o + i) v r (by simp at h ⊢; omega)
    simpa [Nat.add_assoc, List.append_assoc] using hstep

theorem fillA_sound {c : Ctx} {place : Nat → Option (Nat × Nat)} : ∀ (parts : List (Nat × AV)) (vals : List (Nat × Value)) (cells : List AV) (vs : Array Value) {K : List AV → Prop},
    parts.length = vals.length → (∀ (j : Nat) p q, parts[j]? = some p → vals[j]? = some q → p.1 = q.1 ∧ RepV c p.2 q.2) → RepL c cells vs.toList → fillA place cells parts K →
    ∃ out cs, Instr.fill place vs vals = some out ∧ K cs ∧ RepL c cs out.toList
  | [], [], cells, vs, K, _, _, hr, h => ⟨vs, cells, rfl, h, hr⟩
  | [], _ :: _, _, _, _, hl, _, _, _ => by simp at hl
  | _ :: _, [], _, _, _, hl, _, _, _ => by simp at hl
  | (i, x) :: r, (i', v) :: rv, cells, vs, K, hl, hp, hr, h => by
    have h0 := hp 0 (i, x) (i', v) rfl rfl
    simp only at h0
    obtain ⟨rfl, hx⟩ := h0
    unfold fillA at h
    split at h
    case h_2 => exact h.elim
    case h_1 o s cs hpl hcs =>
      obtain ⟨h1, h2, h3⟩ := h
      have hcr := cellsOf_rep hcs hx
      have hlen : v.cells.size = s := by have := hcr.1; simp at this; omega
      have hvl : vs.size = cells.length := by have := hr.1; simpa using this
      have hfold := fold_splice v.cells.toList o 0 vs (by simp; omega)
      have hnot : ¬ ((v.cells.size ≠ s || decide (o + v.cells.size > vs.size)) = true) := by
        simp only [ne_eq, Bool.or_eq_true, decide_eq_true_eq, not_or]
        omega
      obtain ⟨out, cs', hf, hK, hrr⟩ := fillA_sound r rv (splice cells o cs) (v.cells.zipIdx.foldl (fun (cs : Array Value) (p : Value × Nat) => cs.setIfInBounds (o + p.2) p.1) vs) (by simpa using hl)
        (fun j p q hpj hqj => hp (j + 1) p q (by simpa using hpj) (by simpa using hqj)) (by
          have e : (v.cells.zipIdx.foldl (fun (cs : Array Value) (p : Value × Nat) => cs.setIfInBounds (o + p.2) p.1) vs).toList = splice vs.toList o v.cells.toList := by
            rw [← Array.foldl_toList, Array.toList_zipIdx]
            simpa using hfold
          rw [e]
          exact hr.splice hcr o) h3
      refine ⟨out, cs', ?_, hK, hrr⟩
      unfold Instr.fill
      simp only [hpl]
      rw [if_neg (by simpa using hnot)]
      exact hf

theorem run_fields (w : World) : ∀ (fs : List Field), (∀ f ∈ fs, 0 < P.cellsOf f.type) → (fs.mapM fun f => Prod.mk f.offset <$> sizeOf f.type).run P w = .ok (fs.map fun f => (f.offset, P.cellsOf f.type)) w
  | [], _ => by simp
  | f :: fs, h => by
    have hf := h f (by simp)
    have hi : ∃ i, P.info? f.type = some i := by
      cases hq : P.info? f.type with
      | none => simp [Program.cellsOf, hq] at hf
      | some i => exact ⟨i, rfl⟩
    obtain ⟨i, hi⟩ := hi
    have hs : (sizeOf f.type).run P w = .ok (P.cellsOf f.type) w := by simp [sizeOf, typeInfo, hi, Program.cellsOf]
    simp [List.mapM_cons, hs, run_fields w fs fun g hg => h g (by simp [hg])]

theorem buildA_sound {c : Ctx} (hT : TOk P T) {t : TypeId} {parts : List (Nat × AV)} {vals : List (Nat × Value)} (hl : parts.length = vals.length)
    (hp : ∀ (j : Nat) p q, parts[j]? = some p → vals[j]? = some q → p.1 = q.1 ∧ RepV c p.2 q.2) (h : buildA T t parts K) : Yields P c D (Instr.build t vals.toArray) K := by
  unfold buildA at h
  split at h
  case h_2 => exact h.elim
  case h_1 ti ht =>
    have ty := hT t ti ht
    obtain ⟨inf, z, hi, hsz, hby, hz, hzc⟩ := ty.info
    have hz0 : (ti.zero.map AV.val).length = z.cells.size := by rw [← hzc]; simp
    have hzr : RepL c (ti.zero.map .val) z.cells.toList := by rw [hzc]; exact zero_rep ty.one
    split at h
    · rename_i hk
      obtain ⟨fs, hu, hfl, hfs⟩ := ty.struct hk
      obtain ⟨out, cs, hf, hK, hr⟩ := fillA_sound parts vals _ z.cells hl hp hzr h
      refine ⟨.agg out, .agg cs, hK, ?_, ?_⟩
      · have := hr.agg; simpa using this
      · intro w' _
        have hrun := run_fields (P := P) w' fs.toList fun f hf => hfs f (by simpa using hf)
        rw [← hfl] at hrun
        have hpl : (fun i : Nat => ti.fields[i]?) = fun x => ti.fields.toArray[x]? := by funext i; simp
        rw [hpl] at hf
        simp [Instr.build, run_underlying hu, typeInfo, zeroValue, hi, hz, Array.mapM_eq_mapM_toList, hrun]
        simp only [List.getElem?_toArray] at hf
        simp [hf]
    · split at h
      case h_2 => exact h.2.elim
      case h_1 te hte =>
        have hu := ty.array h.1
        have hse := fun w' : World => size_of hT hte w'
        obtain ⟨out, cs, hf, hK, hr⟩ := fillA_sound parts vals _ z.cells hl hp hzr h.2
        refine ⟨.agg out, .agg cs, hK, ?_, ?_⟩
        · have := hr.agg; simpa using this
        · intro w' _; simp [Instr.build, run_underlying hu, typeInfo, zeroValue, hi, hz, hse w', hf]

/-- The bounds as the model reckons them, for a slice (true) or a string (false). -/
theorem boundsA_sound {c : Ctx} {len cap : Nat} (hc : len ≤ cap) {b : Bool} {lo hi : Option AV} {vlo vhi : Option Value} {k : Nat → Nat → Prop} (h : boundsA len lo hi k)
    (hlo : ∀ x v, lo = some x → vlo = some v → RepV c x v) (hlo' : lo.isSome = vlo.isSome) (hhi : ∀ x v, hi = some x → vhi = some v → RepV c x v) (hhi' : hi.isSome = vhi.isSome) :
    ∃ p q, k p q ∧ p ≤ q ∧ q ≤ len ∧ ∀ w' : World, (Instr.sliceBounds b len cap vlo vhi none).run P w' = .ok (p, q, cap) w' := by
  unfold boundsA at h
  split at h
  case h_5 => exact h.elim
  case h_1 =>
    cases vlo with
    | some _ => simp at hlo'
    | none =>
      cases vhi with
      | some _ => simp at hhi'
      | none => exact ⟨0, len, h, Nat.zero_le _, Nat.le_refl _, fun w' => by simp [Instr.sliceBounds]⟩
  case h_2 ka a =>
    cases vhi with
    | some _ => simp at hhi'
    | none =>
      cases vlo with
      | none => simp at hlo'
      | some v =>
        have hr := hlo _ v rfl rfl
        cases hr
        obtain ⟨h0, h1, h2⟩ := h
        exact ⟨a.toNat, len, h2, by omega, Nat.le_refl _, fun w' => by simp [Instr.sliceBounds, Instr.sliceBound, asIntOf, h0, h1]⟩
  case h_3 kb q =>
    cases vlo with
    | some _ => simp at hlo'
    | none =>
      cases vhi with
      | none => simp at hhi'
      | some v =>
        have hr := hhi _ v rfl rfl
        cases hr
        obtain ⟨h0, h1, h2⟩ := h
        have h3 : q ≤ (cap : Int) := by omega
        exact ⟨0, q.toNat, h2, by omega, by omega, fun w' => by simp [Instr.sliceBounds, Instr.sliceBound, asIntOf, h0, h3]⟩
  case h_4 ka a kb q =>
    cases vlo with
    | none => simp at hlo'
    | some v =>
      cases vhi with
      | none => simp at hhi'
      | some v' =>
        have hr := hlo _ v rfl rfl
        have hr' := hhi _ v' rfl rfl
        cases hr
        cases hr'
        obtain ⟨h0, h1, h2, h3⟩ := h
        have h4 : q ≤ (cap : Int) := by omega
        have h5 : 0 ≤ q := by omega
        exact ⟨a.toNat, q.toNat, h3, by omega, by omega, fun w' => by
          have h7 : ¬ (max q 0 < a) := by omega
          simp [Instr.sliceBounds, Instr.sliceBound, asIntOf, h0, h4, h5, h7]⟩

theorem run_slice_sl {t e : TypeId} (hu : P.underlying t = some (.slice e)) {w : World} {sz : Nat} (hs : (sizeOf e).run P w = .ok sz w) {a : Option Addr} {len cap p q : Nat} {vlo vhi : Option Value}
    (hb : (Instr.sliceBounds true len cap vlo vhi none).run P w = .ok (p, q, cap) w) :
    (Instr.sliceAt t (.slice a len cap) vlo vhi none).run P w = .ok (.slice (if cap = p then a else a.map (·.add (p * sz))) (q - p) (cap - p)) w := by
  simp [Instr.sliceAt, Instr.slice, run_underlying hu, hb, hs]

theorem RepV.sl_cut {c : Ctx} {sz : Nat} {l : List (List AV)} {a : Option Addr} {len cap p q : Nat} (h : RepV c (.sl sz l) (.slice a len cap)) (hp : p ≤ q) (hq : q ≤ l.length) :
    RepV c (.sl sz ((l.drop p).take (q - p))) (.slice (if cap = p then a else a.map (·.add (p * sz))) (q - p) (cap - p)) := by
  by_cases hpq : p = q
  · subst hpq
    simp only [Nat.sub_self, List.take_zero]
    exact .sl0 _ _ _
  · cases h with
    | sl0 => simp at hq; omega
    | sl _ _ b off _ vf hok hcap hl hc hh =>
      have hcp : ¬ (cap = p) := by omega
      rw [if_neg hcp]
      simp only [Option.map_some, add_none]
      have hlen : ((l.drop p).take (q - p)).length = q - p := by simp; omega
      have hg : ∀ (i : Nat) e, ((l.drop p).take (q - p))[i]? = some e → l[p + i]? = some e := by
        intro i e hi
        rw [List.getElem?_take] at hi
        split at hi
        · rw [List.getElem?_drop] at hi; exact hi
        · cases hi
      have := RepV.sl (c := c) sz ((l.drop p).take (q - p)) b (off + p * sz) (cap - p) (fun i j => vf (p + i) j) hok (by rw [hlen]; omega) (fun i e hi => hl _ e (hg i e hi))
        (fun i e j a hi hj => by
          have := hc _ e j a (hg i e hi) hj
          have e1 : off + p * sz + i * sz + j = off + (p + i) * sz + j := by rw [Nat.add_mul]; omega
          rw [e1]; exact this)
        (fun i e j a hi hj => hh _ e j a (hg i e hi) hj)
      rw [hlen] at this
      exact this

theorem icells_cut (l : List Int) (p n : Nat) : icells ((l.drop p).take n) = ((icells l).drop p).take n := by simp [icells, List.map_take, List.map_drop]
theorem icells_length (l : List Int) : (icells l).length = l.length := by simp [icells]

theorem RepV.ints_slice {c : Ctx} {l : List Int} {v : Value} (h : RepV c (.ints l) v) : ∃ a cap, v = .slice a l.length cap ∧ l.length ≤ cap ∧ RepV c (.sl 1 (icells l)) (.slice a l.length cap) := by
  cases h with
  | ints l v h' =>
    have hl := icells_length l
    revert hl h'
    generalize icells l = cs
    intro h' hl
    cases h' with
    | sl0 sz a cap => simp at hl; exact ⟨a, cap, by rw [← hl], by omega, by rw [← hl]; exact .sl0 1 a cap⟩
    | sl _ _ b off cap vf hok hcap hl' hc hh => exact ⟨_, cap, by rw [hl], by omega, by rw [← hl]; exact .sl 1 cs b off cap vf hok hcap hl' hc hh⟩

theorem RepV.sl_slice {c : Ctx} {sz : Nat} {l : List (List AV)} {v : Value} (h : RepV c (.sl sz l) v) : ∃ a cap, v = .slice a l.length cap ∧ l.length ≤ cap := by
  cases h with
  | sl0 sz a cap => exact ⟨a, cap, rfl, Nat.zero_le _⟩
  | sl _ _ b off cap vf hok hcap hl' hc hh => exact ⟨_, cap, rfl, hcap⟩

theorem sliceA_sound (hT : TOk P T) (hob : ∀ k, RepO (ctxOf E H w ρ A) k (H k)) {t : TypeId} {x : AV} {u : Value} {lo hi : Option AV} {vlo vhi : Option Value} (h : sliceA T H t x lo hi K) (hx : RepV (ctxOf E H w ρ A) x u)
    (hlo : ∀ x v, lo = some x → vlo = some v → RepV (ctxOf E H w ρ A) x v) (hlo' : lo.isSome = vlo.isSome) (hhi : ∀ x v, hi = some x → vhi = some v → RepV (ctxOf E H w ρ A) x v) (hhi' : hi.isSome = vhi.isSome) :
    Yields P (ctxOf E H w ρ A) D (Instr.sliceAt t u vlo vhi none) K := by
  unfold sliceA at h
  split at h
  case h_2 => exact h.elim
  case h_1 ti ht =>
    have ty := hT t ti ht
    split at h
    case h_9 => exact h.elim
    case h_6 k off =>
      obtain ⟨hk, rfl, rfl, ⟨te, hte, hsz⟩, h⟩ := h
      split at h
      case h_2 => exact h.elim
      case h_1 cs hcs =>
        obtain ⟨hle, hK⟩ := h
        have hlo2 : vlo = none := by cases vlo <;> simp at hlo' ⊢
        have hhi2 : vhi = none := by cases vhi <;> simp at hhi' ⊢
        subst hlo2 hhi2
        have ho := hob k
        rw [hcs] at ho
        obtain ⟨vs, T', h1, h2, _, _⟩ := ho
        cases hx
        refine ⟨.slice (some ⟨ρ k, off, none⟩) ti.alen ti.alen, _, hK, .win k off ti.alen ti.alen cs hcs (Nat.le_refl _) ⟨vs, T', (0, 0), h1, by omega⟩, fun w' _ => ?_⟩
        have hse := size_of hT hte w'
        simp [Instr.sliceAt, run_underlying (ty.array hk), Instr.sliceBounds, Instr.sureAddr, hse, add_none]
    case h_1 l =>
      obtain ⟨hk, ⟨te, hte, hsz⟩, h⟩ := h
      obtain ⟨a, cap, rfl, hcap, hr⟩ := hx.ints_slice
      obtain ⟨p, q, hK, hpq, hq, hb⟩ := boundsA_sound (P := P) (b := true) hcap h hlo hlo' hhi hhi'
      refine ⟨_, _, hK, ?_, fun w' _ => run_slice_sl (ty.slice hk) (size_of hT hte _) (hb w')⟩
      rw [hsz]
      have := hr.sl_cut hpq (by rw [icells_length]; exact hq)
      rw [← icells_cut] at this
      exact .ints _ _ this
    case h_2 l =>
      obtain ⟨hk, ⟨te, hte, hsz⟩, h⟩ := h
      have hs : ∃ a cap, u = .slice a l.length cap ∧ l.length ≤ cap := by
        cases hx with
        | bytes0 a cap => exact ⟨a, cap, rfl, Nat.zero_le _⟩
        | bytes l b off cap hz hcap hc => exact ⟨_, cap, rfl, hcap⟩
      obtain ⟨a, cap, rfl, hcap⟩ := hs
      obtain ⟨p, q, hK, hpq, hq, hb⟩ := boundsA_sound (P := P) (b := true) hcap h hlo hlo' hhi hhi'
      refine ⟨_, _, hK, ?_, fun w' _ => run_slice_sl (ty.slice hk) (size_of hT hte _) (hb w')⟩
      rw [hsz]
      by_cases hpq' : p = q
      · subst hpq'
        simp only [Nat.sub_self, List.take_zero]
        exact .bytes0 _ _
      · generalize hlen : l.length = len at hx hcap hq hb
        cases hx with
        | bytes0 => simp at hlen; omega
        | bytes _ b off _ hz hcap' hc =>
          have hcp : ¬ (cap = p) := by omega
          rw [if_neg hcp]
          simp only [Option.map_some, add_none, Nat.mul_one]
          have hlen' : ((l.drop p).take (q - p)).length = q - p := by simp; omega
          have := RepV.bytes (c := ctxOf E H w ρ A) ((l.drop p).take (q - p)) b (off + p) (cap - p) hz (by rw [hlen']; omega) (fun i x hi => by
            rw [List.getElem?_take] at hi
            split at hi
            · rw [List.getElem?_drop] at hi
              have := hc _ x hi
              rw [Nat.add_assoc]; exact this
            · cases hi)
          rw [hlen'] at this
          exact this
    case h_3 sz l =>
      obtain ⟨hk, ⟨te, hte, hsz⟩, h⟩ := h
      obtain ⟨a, cap, rfl, hcap⟩ := hx.sl_slice
      obtain ⟨p, q, hK, hpq, hq, hb⟩ := boundsA_sound (P := P) (b := true) hcap h hlo hlo' hhi hhi'
      refine ⟨_, _, hK, ?_, fun w' _ => run_slice_sl (ty.slice hk) (size_of hT hte _) (hb w')⟩
      rw [hsz]
      exact hx.sl_cut hpq hq
    case h_4 k =>
      obtain ⟨hk, h⟩ := h
      cases hx with
      | own _ sz n cap hinf hcap hr =>
        have hinf' : (H k).info = some (sz, n) := hinf
        rw [hinf'] at h
        obtain ⟨⟨te, hte, hsz⟩, h⟩ := h
        obtain ⟨p, q, hK, hpq, hq, hb⟩ := boundsA_sound (P := P) (b := true) hcap.1 h hlo hlo' hhi hhi'
        refine ⟨_, _, hK, ?_, fun w' _ => run_slice_sl (ty.slice hk) (size_of hT hte _) (hb w')⟩
        rw [hsz]
        by_cases hcp : cap = p
        · rw [if_pos hcp]
          exact .sub k sz n p q 0 (cap - p) hinf hpq hq (by omega) (by rw [show p + (cap - p) = cap by omega]; exact hr) (by
            by_cases hp0 : p = 0
            · left; rw [hp0, Nat.zero_mul]
            · right; omega)
        · rw [if_neg hcp]
          simp only [Option.map_some, add_none, Nat.zero_add]
          exact .sub k sz n p q _ (cap - p) hinf hpq hq (by omega) (by rw [show p + (cap - p) = cap by omega]; exact hr) (.inl rfl)
    case h_5 k lo' hi' =>
      obtain ⟨hk, h⟩ := h
      cases hx with
      | sub _ sz n _ _ o cap hinf h1 h2 hcap hr ho =>
        have hinf' : (H k).info = some (sz, n) := hinf
        rw [hinf'] at h
        obtain ⟨⟨te, hte, hsz⟩, h⟩ := h
        obtain ⟨p, q, hK, hpq, hq, hb⟩ := boundsA_sound (P := P) (b := true) hcap.1 h hlo hlo' hhi hhi'
        refine ⟨_, _, hK, ?_, fun w' _ => run_slice_sl (ty.slice hk) (size_of hT hte _) (hb w')⟩
        rw [hsz]
        have e1 : q - p = lo' + q - (lo' + p) := by omega
        rw [e1]
        by_cases hcp : cap = p
        · rw [if_pos hcp]
          exact .sub k sz n (lo' + p) (lo' + q) o (cap - p) hinf (by omega) (by omega) (by omega) (by rw [show lo' + p + (cap - p) = lo' + cap by omega]; exact hr) (by
            by_cases hp0 : lo' + p = 0
            · left
              rw [hp0, Nat.zero_mul]
              rcases ho with ho | ho
              · rw [ho, show lo' = 0 by omega, Nat.zero_mul]
              · omega
            · right; omega)
        · rw [if_neg hcp]
          simp only [Option.map_some, add_none]
          refine .sub k sz n (lo' + p) (lo' + q) _ (cap - p) hinf (by omega) (by omega) (by omega) (by rw [show lo' + p + (cap - p) = lo' + cap by omega]; exact hr) (.inl ?_)
          have : o = lo' * sz := by rcases ho with ho | ho <;> omega
          rw [this, Nat.add_mul]
    case h_7 =>
      obtain ⟨hk, ⟨te, hte⟩, h⟩ := h
      cases hx
      obtain ⟨p, q, hK, hpq, hq, hb⟩ := boundsA_sound (P := P) (cap := 0) (b := true) (Nat.le_refl _) h hlo hlo' hhi hhi'
      have hp0 : p = 0 := by omega
      have hq0 : q = 0 := by omega
      subst hp0 hq0
      exact ⟨_, _, hK, .val _, fun w' _ => by rw [run_slice_sl (ty.slice hk) (size_of hT hte _) (hb w')]; simp⟩
    case h_8 s =>
      cases hx
      obtain ⟨p, q, hK, hpq, hq, hb⟩ := boundsA_sound (P := P) (cap := s.size) (b := false) (Nat.le_refl _) h.2 hlo hlo' hhi hhi'
      have hu := ty.string h.1
      exact ⟨_, _, hK, .val _, fun w' _ => by simp [Instr.sliceAt, Instr.slice, run_underlying hu, hb]⟩

theorem auxA_sound (hT : TOk P T) (hob : ∀ k, RepO (ctxOf E H w ρ A) k (H k)) {o : Oper} {EV : Operand → AV} {a : Act} (hev : ∀ x, RepV (ctxOf E H w ρ A) (EV x) (a.eval x)) (h : auxA T H EV o.op K) :
    ∃ v x, K x ∧ RepV (ctxOf E H w ρ A) x v ∧ ∀ w', (execOp a.eval o).run P w' = .ok (.value v) w' := by
  have fin : ∀ {s : Sem Value}, Yields P (ctxOf E H w ρ A) (fun _ => True) s K → execOp a.eval o = (do pure (.value (← s))) → ∃ v x, K x ∧ RepV (ctxOf E H w ρ A) x v ∧ ∀ w', (execOp a.eval o).run P w' = .ok (.value v) w' := by
    rintro s ⟨v, x, hK, hr, hrun⟩ he
    refine ⟨v, x, hK, hr, fun w' => ?_⟩
    rw [he, Sem.run_bind, hrun w' trivial]
    rfl
  unfold auxA at h
  split at h
  case h_5 => exact h.elim
  case h_4 op args argTypes hop =>
    split at h
    case h_2 => exact h.elim
    case h_1 x y hargs =>
      have ha : args = #[x, y] := by apply Array.ext'; simpa using hargs
      subst ha
      split at h
      case h_2 => exact h.elim
      case h_1 k m k' n hx' hy' =>
        have hx := hev x
        have hy := hev y
        rw [hx'] at hx
        rw [hy'] at hy
        generalize hu : a.eval x = u at hx
        generalize hz : a.eval y = z at hy
        cases hx
        cases hy
        by_cases hc : n > m
        · exact ⟨.int k n, _, h n (.inr rfl) (Int.le_of_lt hc) (Int.le_refl _), .val _, fun w' => by simp [execOp, hop, resolve, invoke, builtin, hu, hz, Builtin.max_, Builtin.max2, hc]⟩
        · exact ⟨.int k m, _, h m (.inl rfl) (Int.le_refl _) (by omega), .val _, fun w' => by simp [execOp, hop, resolve, invoke, builtin, hu, hz, Builtin.max_, Builtin.max2, hc]⟩
  case h_1 op t parts hop =>
    refine fin (buildA_sound (vals := (parts.toList.map fun p => (p.1, a.eval p.2))) hT (by simp) (fun j p q hp hq => ?_) h) ?_
    · rw [List.getElem?_map] at hp hq
      obtain ⟨p0, hp0, rfl⟩ := Option.map_eq_some_iff.1 hp
      rw [hp0] at hq
      simp at hq
      subst hq
      exact ⟨rfl, hev _⟩
    · have e : (parts.toList.map fun p => (p.1, a.eval p.2)).toArray = parts.map fun p => (p.1, a.eval p.2) := by
        apply Array.ext'; simp
      rw [e]
      simp [execOp, hop]
  case h_2 op t x lo hi hop =>
    refine fin (sliceA_sound (vlo := lo.map a.eval) (vhi := hi.map a.eval) hT hob h (hev x) (fun y v hy hv => ?_) (by simp) (fun y v hy hv => ?_) (by simp)) (by simp [execOp, hop])
    · obtain ⟨z, hz, rfl⟩ := Option.map_eq_some_iff.1 hy
      rw [hz] at hv
      simp at hv
      subst hv
      exact hev z
    · obtain ⟨z, hz, rfl⟩ := Option.map_eq_some_iff.1 hy
      rw [hz] at hv
      simp at hv
      subst hv
      exact hev z
  case h_3 op args argTypes hop =>
    split at h
    case h_2 => exact h.elim
    case h_1 x t hargs htys =>
      have ha : args = #[x] := by apply Array.ext'; simpa using hargs
      have ht' : argTypes = #[t] := by apply Array.ext'; simpa using htys
      subst ha ht'
      split at h
      case h_2 => exact h.elim
      case h_1 ti ht =>
        have ty := hT t ti ht
        split at h
        · rename_i hk
          obtain ⟨n, y, hK, rfl, b, m, cap, hu, hm⟩ := lenA_sound h (hev x)
          refine ⟨_, _, hK, .val _, fun w' => ?_⟩
          simp [execOp, hop, resolve, invoke, builtin, hu, run_len (ty.slice hk), hm]
        · split at h
          case h_2 => exact h.2.elim
          case h_1 s hs =>
            have hx := hev x
            rw [hs] at hx
            generalize hu : a.eval x = u at hx
            cases hx
            refine ⟨_, _, h.2, .val _, fun w' => ?_⟩
            simp [execOp, hop, resolve, invoke, builtin, hu, Builtin.len_, run_underlying (ty.string h.1), goInt]
end Go.Vc
namespace Go.Vc
variable {P : Program} {T : TT} {E : Entry} {H : Nat → AO} {F : List Fam} {w : World} {ρ : Nat → Nat} {A : FA}

theorem flat_length {α : Type} {sz : Nat} : ∀ {l : List (List α)}, (∀ e ∈ l, e.length = sz) → l.flatten.length = l.length * sz
  | [], _ => by simp
  | e :: r, h => by
    simp only [List.flatten_cons, List.length_append, List.length_cons]
    rw [flat_length fun x hx => h x (by simp [hx]), h e (by simp), Nat.add_mul]
    omega
theorem flat_get {α : Type} {sz : Nat} : ∀ {l : List (List α)}, (∀ e ∈ l, e.length = sz) → ∀ {i : Nat} {e : List α} {j : Nat}, l[i]? = some e → j < sz → l.flatten[i * sz + j]? = e[j]?
  | [], _, i, e, j, hi, _ => by simp at hi
  | x :: r, h, 0, e, j, hi, hj => by
    simp at hi
    subst hi
    simp only [Nat.zero_mul, Nat.zero_add, List.flatten_cons]
    rw [List.getElem?_append_left (by rw [h x (by simp)]; exact hj)]
  | x :: r, h, i + 1, e, j, hi, hj => by
    simp at hi
    simp only [List.flatten_cons]
    have hx := h x (by simp)
    rw [List.getElem?_append_right (by rw [hx, Nat.add_mul]; omega), hx]
    have e1 : (i + 1) * sz + j - sz = i * sz + j := by rw [Nat.add_mul]; omega
    rw [e1]
    exact flat_get (fun y hy => h y (by simp [hy])) hi hj
theorem flat_get_inv {α : Type} {sz : Nat} (hsz : 0 < sz) : ∀ {l : List (List α)}, (∀ e ∈ l, e.length = sz) → ∀ {p : Nat} {a : α}, l.flatten[p]? = some a → ∃ i e j, p = i * sz + j ∧ j < sz ∧ l[i]? = some e ∧ e[j]? = some a
  | [], _, p, a, hp => by simp at hp
  | x :: r, h, p, a, hp => by
    have hx := h x (by simp)
    simp only [List.flatten_cons] at hp
    by_cases hlt : p < sz
    · rw [List.getElem?_append_left (by omega)] at hp
      exact ⟨0, x, p, by simp, hlt, rfl, hp⟩
    · rw [List.getElem?_append_right (by omega), hx] at hp
      obtain ⟨i, e, j, h1, h2, h3, h4⟩ := flat_get_inv hsz (fun y hy => h y (by simp [hy])) hp
      exact ⟨i + 1, e, j, by rw [Nat.add_mul]; omega, h2, by simpa using h3, h4⟩

/-- An array object, laid flat. -/
theorem repO_flat {c : Ctx} {k sz : Nat} (hsz : 0 < sz) {l : List (List AV)} : RepO c k (.arr sz l) ↔ ∃ vs T, c.w.heap[c.ρ k]? = some (.cells vs T (0, 0)) ∧ (∀ e ∈ l, e.length = sz) ∧ (∀ v ∈ vs.toList, v.oneCell' = true) ∧
    l.length * sz ≤ vs.size ∧ RepL c l.flatten (vs.toList.take (l.length * sz)) ∧ (∀ a ∈ l.flatten, pureB a = true) := by
  constructor
  · rintro ⟨vs, T, h1, h2, h3, h5, h4⟩
    have h5' : ∀ e ∈ l, e.length = sz := fun e he => by obtain ⟨i, hi⟩ := List.mem_iff_getElem?.1 he; exact h5 i e hi
    have hget : ∀ (p : Nat) a v, l.flatten[p]? = some a → (vs.toList.take (l.length * sz))[p]? = some v → RepV c a v ∧ pureB a = true := by
      intro p a v hp hv
      obtain ⟨i, e, j, rfl, hj, hi, hej⟩ := flat_get_inv hsz h5' hp
      rw [List.getElem?_take] at hv
      split at hv
      · exact h4 i e j a v hi hej (by simpa using hv)
      · cases hv
    refine ⟨vs, T, h1, h5', h3, h2, ⟨by rw [flat_length h5']; simp; omega, fun v hv => h3 v (List.mem_of_mem_take hv), fun p a v hp hv => (hget p a v hp hv).1⟩, fun a ha => ?_⟩
    obtain ⟨p, hp⟩ := List.mem_iff_getElem?.1 ha
    have hpl : p < l.length * sz := by rw [← flat_length h5']; exact (List.getElem?_eq_some_iff.1 hp).1
    exact (hget p a (vs.toList[p]'(by simp; omega)) hp (by rw [List.getElem?_take, if_pos hpl]; exact List.getElem?_eq_getElem _)).2
  · rintro ⟨vs, T, h1, h5, h3, h2, h4, h6⟩
    refine ⟨vs, T, h1, h2, h3, fun i e hi => h5 e (List.mem_of_getElem? hi), fun i e j a v hi hj hv => ?_⟩
    have hjs : j < sz := by rw [← h5 e (List.mem_of_getElem? hi)]; exact (List.getElem?_eq_some_iff.1 hj).1
    have hf : l.flatten[i * sz + j]? = some a := by rw [flat_get h5 hi hjs]; exact hj
    have hpl : i * sz + j < l.length * sz := by rw [← flat_length h5]; exact (List.getElem?_eq_some_iff.1 hf).1
    exact ⟨h4.2.2 _ a v hf (by rw [List.getElem?_take, if_pos hpl]; simpa using hv), h6 a (List.mem_of_getElem? hf)⟩

/-- The elements that a source of an append or a copy holds. -/
def srcA (H : Nat → AO) (x : AV) (sz : Nat) : Option (List (List AV)) :=
  match x with
  | .ints l => if sz = 1 then some (icells l) else none
  | .sl s l => if s = sz then some l else none
  | .own k => match H k with
    | .iarr l => if sz = 1 then some (icells l) else none
    | .arr s l => if s = sz then some l else none
    | _ => none
  | .sub k a b => match H k with
    | .iarr l => if sz = 1 then some (icells ((l.drop a).take (b - a))) else none
    | .arr s l => if s = sz then some ((l.drop a).take (b - a)) else none
    | _ => none
  | .win k off n => match H k with
    | .cells cs => if sz = 1 ∧ off + n ≤ cs.length ∧ ((cs.drop off).take n).all pureB = true then some (((cs.drop off).take n).map fun c => [c]) else none
    | _ => none
  | .val (.slice none 0 0) => some []
  | _ => none

/-- What is known of a source at run time. -/
structure Src (c : Ctx) (sz : Nat) (es : List (List AV)) (u : Value) (news : List Value) : Prop where
  len : ∃ a cap, u = .slice a es.length cap
  el : ∀ e ∈ es, e.length = sz
  nl : news.length = es.length * sz
  rep : RepL c es.flatten news
  pure : ∀ a ∈ es.flatten, pureB a = true
  run : ∀ (P : Program) (w' : World), w'.heap = c.w.heap → (Builtin.firstCells sz es.length u).run P w' = .ok news.toArray w'

theorem src_empty {c : Ctx} {sz : Nat} {a : Option Addr} {cap : Nat} : Src c sz [] (.slice a 0 cap) [] := by
  refine ⟨⟨a, cap, rfl⟩, by simp, by simp, .nil, by simp, fun P w' _ => ?_⟩
  cases a with
  | none => simp [Builtin.firstCells]
  | some a => simp [Builtin.firstCells, loadCells, loadCellsFrom]

theorem cell_heap {w w' : World} (h : w'.heap = w.heap) (a : Addr) : w'.cell? a = w.cell? a := by simp [World.cell?, h]

theorem src_sl {c : Ctx} {sz : Nat} (hsz : 0 < sz) {l : List (List AV)} {u : Value} (h : RepV c (.sl sz l) u) : ∃ news, Src c sz l u news := by
  cases h with
  | sl0 => exact ⟨[], src_empty⟩
  | sl _ _ b off cap vf hok hcap hl hc hh =>
    have hl' : ∀ e ∈ l, e.length = sz := fun e he => by obtain ⟨i, hi⟩ := List.mem_iff_getElem?.1 he; exact hl i e hi
    have hlen := flat_length hl'
    have hat : ∀ (p : Nat) a, l.flatten[p]? = some a → c.w.cell? ⟨b, off + p, none⟩ = some (vf (p / sz) (p % sz)) ∧ pureB a = true ∧ (vf (p / sz) (p % sz)).oneCell' = true ∧ RepV c a (vf (p / sz) (p % sz)) := by
      intro p a hp
      obtain ⟨i, e, j, rfl, hj, hi, hej⟩ := flat_get_inv hsz hl' hp
      have e1 : (i * sz + j) / sz = i := by rw [Nat.mul_comm, Nat.mul_add_div hsz, Nat.div_eq_of_lt hj, Nat.add_zero]
      have e2 : (i * sz + j) % sz = j := by rw [Nat.mul_comm, Nat.mul_add_mod, Nat.mod_eq_of_lt hj]
      rw [e1, e2, ← Nat.add_assoc]
      obtain ⟨h1, h2, h3⟩ := hc i e j a hi hej
      exact ⟨h1, h2, h3, hh i e j a hi hej⟩
    let news := (List.range (l.length * sz)).map fun p => vf (p / sz) (p % sz)
    have hnl : news.length = l.length * sz := by simp [news]
    have hng : ∀ (p : Nat) v, news[p]? = some v → p < l.length * sz ∧ v = vf (p / sz) (p % sz) := by
      intro p v hp
      have hpl : p < l.length * sz := by rw [← hnl]; exact (List.getElem?_eq_some_iff.1 hp).1
      simp only [news, List.getElem?_map, List.getElem?_range hpl, Option.map_some, Option.some.injEq] at hp
      exact ⟨hpl, hp.symm⟩
    have hfl : ∀ p, p < l.length * sz → ∃ a, l.flatten[p]? = some a := fun p hp => ⟨_, List.getElem?_eq_getElem (by rw [hlen]; exact hp)⟩
    refine ⟨news, ⟨_, cap, rfl⟩, hl', hnl, ⟨by rw [hnl, hlen], fun v hv => ?_, fun p a v hp hv => ?_⟩, fun a ha => ?_, fun P w' hw => ?_⟩
    · obtain ⟨p, hp⟩ := List.mem_iff_getElem?.1 hv
      obtain ⟨h1, rfl⟩ := hng p v hp
      obtain ⟨a, ha⟩ := hfl p h1
      exact (hat p a ha).2.2.1
    · obtain ⟨h1, rfl⟩ := hng p v hv
      exact (hat p a hp).2.2.2
    · obtain ⟨p, hp⟩ := List.mem_iff_getElem?.1 ha
      exact (hat p a hp).2.1
    · refine run_firstCells_some w' sz l.length _ _ _ news hnl fun p v hp => ?_
      obtain ⟨h1, rfl⟩ := hng p v hp
      obtain ⟨a, ha⟩ := hfl p h1
      rw [add_none, cell_heap hw]
      exact (hat p a ha).1

theorem src_cut {c : Ctx} {k sz : Nat} (hsz : 0 < sz) {l : List (List AV)} (ho : RepO c k (.arr sz l)) {p q o cap : Nat} (hp : p ≤ q) (hq : q ≤ l.length) (hoff : o = p * sz ∨ (cap = 0 ∧ q = p)) :
    ∃ news, Src c sz ((l.drop p).take (q - p)) (.slice (some ⟨c.ρ k, o, none⟩) (q - p) cap) news := by
  have hlen : ((l.drop p).take (q - p)).length = q - p := by simp; omega
  by_cases hpq : p = q
  · subst hpq
    refine ⟨[], ?_⟩
    have : (l.drop p).take (p - p) = [] := by simp
    rw [this, Nat.sub_self]
    exact src_empty
  · have hoff' : o = p * sz := by rcases hoff with h | h <;> omega
    subst hoff'
    obtain ⟨vs, T, h1, h5, h3, h2, h4, h6⟩ := (repO_flat hsz).1 ho
    have hsub : ∀ e ∈ (l.drop p).take (q - p), e ∈ l := fun e he => List.mem_of_mem_drop (List.mem_of_mem_take he)
    have hfl : ((l.drop p).take (q - p)).flatten = (l.flatten.drop (p * sz)).take ((q - p) * sz) := by
      have hl' : ∀ e ∈ (l.drop p).take (q - p), e.length = sz := fun e he => h5 e (hsub e he)
      apply List.ext_getElem?
      intro i
      by_cases hi : i < (q - p) * sz
      · rw [List.getElem?_take, if_pos hi, List.getElem?_drop]
        have e1 : i = i / sz * sz + i % sz := by rw [Nat.mul_comm]; exact (Nat.div_add_mod i sz).symm
        have hlt : i / sz < q - p := (Nat.div_lt_iff_lt_mul hsz).2 hi
        have hm : i % sz < sz := Nat.mod_lt _ hsz
        have hg : ((l.drop p).take (q - p))[i / sz]? = some (l[p + i / sz]'(by omega)) := by
          rw [List.getElem?_take, if_pos hlt, List.getElem?_drop]; exact List.getElem?_eq_getElem _
        have hg' : l[p + i / sz]? = some (l[p + i / sz]'(by omega)) := List.getElem?_eq_getElem _
        conv => lhs; rw [e1]
        rw [flat_get hl' hg hm]
        have e2 : p * sz + i = (p + i / sz) * sz + i % sz := by rw [Nat.add_mul]; omega
        rw [e2, flat_get h5 hg' hm]
      · have hle : (q - p) * sz ≤ i := by omega
        rw [List.getElem?_eq_none (by rw [flat_length hl', hlen]; exact hle), List.getElem?_eq_none (by simp; omega)]
    have hrep : RepL c ((l.drop p).take (q - p)).flatten (((vs.toList.take (l.length * sz)).drop (p * sz)).take ((q - p) * sz)) := by
      rw [hfl]; exact (h4.drop _).take _
    have hpm : p * sz + (q - p) * sz ≤ l.length * sz := by
      rw [← Nat.add_mul]; exact Nat.mul_le_mul_right _ (by omega)
    have hnl : (((vs.toList.take (l.length * sz)).drop (p * sz)).take ((q - p) * sz)).length = (q - p) * sz := by
      simp
      omega
    refine ⟨_, ⟨_, cap, by rw [hlen]⟩, fun e he => h5 e (hsub e he), by rw [hnl, hlen], hrep, fun a ha => ?_, fun P w' hw => ?_⟩
    · obtain ⟨e, he, hae⟩ := List.mem_flatten.1 ha
      exact h6 a (List.mem_flatten.2 ⟨e, hsub e he, hae⟩)
    · rw [hlen]
      refine run_firstCells_some w' sz (q - p) _ _ _ _ hnl fun j v hj => ?_
      rw [add_none, cell_heap hw, cell_of_row c.w _ _ vs T (0, 0) h1]
      rw [List.getElem?_take] at hj
      split at hj
      · rw [List.getElem?_drop, List.getElem?_take] at hj
        split at hj
        · simpa using hj
        · cases hj
      · cases hj

theorem srcA_sound (hs : SatW E H F w ρ A) {x : AV} {sz : Nat} (hsz : 0 < sz) {es : List (List AV)} {u : Value} (h : srcA H x sz = some es) (hx : RepV (ctxOf E H w ρ A) x u) : ∃ news, Src (ctxOf E H w ρ A) sz es u news := by
  unfold srcA at h
  split at h
  case h_1 l =>
    split at h
    · rename_i e
      cases h
      subst e
      obtain ⟨a, cap, rfl, _, hr⟩ := hx.ints_slice
      have := src_sl hsz hr
      exact this
    · cases h
  case h_2 s l =>
    split at h
    · rename_i e
      cases h
      subst e
      exact src_sl hsz hx
    · cases h
  case h_3 k =>
    have ho := hs.obj k
    cases hx with
    | own _ s n cap hk hcap hr =>
      have hk : (H k).info = some (s, n) := hk
      split at h
      case h_3 => cases h
      case h_1 l hl =>
        split at h
        · rename_i e
          cases h
          subst e
          rw [hl, repO_iarr] at ho
          rw [hl] at hk
          simp only [AO.info, Option.some.injEq, Prod.mk.injEq] at hk
          obtain ⟨rfl, rfl⟩ := hk
          have := src_cut (p := 0) (q := l.length) (o := 0) (cap := cap) hsz ho (Nat.zero_le _) (by rw [icells_length]; exact Nat.le_refl _) (.inl (by simp))
          simp only [Nat.sub_zero, List.drop_zero] at this
          rw [List.take_of_length_le (by rw [icells_length]; exact Nat.le_refl _)] at this
          exact this
        · cases h
      case h_2 s' l hl =>
        split at h
        · rename_i e
          cases h
          subst e
          rw [hl] at ho hk
          simp only [AO.info, Option.some.injEq, Prod.mk.injEq] at hk
          obtain ⟨rfl, rfl⟩ := hk
          have := src_cut (p := 0) (q := es.length) (o := 0) (cap := cap) hsz ho (Nat.zero_le _) (Nat.le_refl _) (.inl (by simp))
          simp only [Nat.sub_zero, List.drop_zero] at this
          rw [List.take_of_length_le (Nat.le_refl _)] at this
          exact this
        · cases h
  case h_4 k a b =>
    have ho := hs.obj k
    cases hx with
    | sub _ s n _ _ o cap hk h1 h2 hcap hr hoff =>
      have hk : (H k).info = some (s, n) := hk
      split at h
      case h_3 => cases h
      case h_1 l hl =>
        split at h
        · rename_i e
          cases h
          subst e
          rw [hl, repO_iarr] at ho
          rw [hl] at hk
          simp only [AO.info, Option.some.injEq, Prod.mk.injEq] at hk
          obtain ⟨rfl, rfl⟩ := hk
          have := src_cut (p := a) (q := b) (o := o) (cap := cap) hsz ho h1 (by rw [icells_length]; exact h2) (hoff.imp id fun h => ⟨h.1, h.2.1⟩)
          rw [← icells_cut] at this
          exact this
        · cases h
      case h_2 s' l hl =>
        split at h
        · rename_i e
          cases h
          subst e
          rw [hl] at ho hk
          simp only [AO.info, Option.some.injEq, Prod.mk.injEq] at hk
          obtain ⟨rfl, rfl⟩ := hk
          exact src_cut (p := a) (q := b) (o := o) (cap := cap) hsz ho h1 h2 (hoff.imp id fun h => ⟨h.1, h.2.1⟩)
        · cases h
  case h_5 k off n =>
    have ho := hs.obj k
    split at h
    case h_2 => cases h
    case h_1 cs hcs =>
      split at h
      case isFalse => cases h
      case isTrue hc =>
        cases h
        obtain ⟨rfl, hle, hall⟩ := hc
        rw [hcs] at ho
        obtain ⟨vs, T, h1, hrl⟩ := repO_cells.1 ho
        have hvl : vs.size = cs.length := by have := hrl.1; simpa using this
        have hfl : ∀ l : List AV, (l.map fun c => [c]).flatten = l := by
          intro l
          induction l with
          | nil => rfl
          | cons x r ih => simp only [List.map_cons, List.flatten_cons, ih]; rfl
        have hlen : (((cs.drop off).take n).map fun c => [c]).length = n := by simp; omega
        have hnl : ((vs.toList.drop off).take n).length = n * 1 := by simp; omega
        cases hx with
        | win _ _ _ cap cs' hk hcap hr =>
          refine ⟨(vs.toList.drop off).take n, ⟨_, cap, by rw [hlen]⟩, fun e he => ?_, by rw [hlen, hnl], by rw [hfl]; exact (hrl.drop _).take _, fun a ha => ?_, fun P w' hw => ?_⟩
          · obtain ⟨x, _, rfl⟩ := List.mem_map.1 he
            rfl
          · rw [hfl] at ha
            exact List.all_eq_true.1 hall a ha
          · rw [hlen]
            refine run_firstCells_some w' 1 n _ _ _ _ hnl fun j v hj => ?_
            rw [add_none, cell_heap hw]
            have h1 : w.heap[ρ k]? = some (.cells vs T (0, 0)) := h1
            show w.cell? ⟨ρ k, off + j, none⟩ = some v
            rw [cell_of_row w _ _ vs T (0, 0) h1]
            rw [List.getElem?_take] at hj
            split at hj
            · rw [List.getElem?_drop] at hj
              simpa using hj
            · cases hj
  case h_6 => cases h; cases hx; exact ⟨[], src_empty⟩
  case h_7 => cases h

/-- The model's append within the room. -/
theorem run_append_fits {t ty e : TypeId} {t2 : TypeId} {d2 : TypeDesc} {i : TypeInfo} (ht : P.underlying t = some (.slice e)) (ht2 : P.underlying t2 = some d2) (hd2 : ∀ k, d2 ≠ .int k) (hi : P.info? e = some i) {w : World}
    {g sLen sCap m : Nat} {cur : Array Value} {T : TypeId} (hg : w.heap[g]? = some (.cells cur T (0, 0))) {u : Value} {news : List Value} (hu : ∃ a cap, u = .slice a m cap) (_hl : news.length = m * i.size)
    (hf : (Builtin.firstCells i.size m u).run P w = .ok news.toArray w) (h1 : ∀ u ∈ news, u.oneCell' = true) (hroom : sLen + m ≤ sCap) (hfit : sLen * i.size + news.length ≤ cur.size) :
    (Builtin.append_ #[t, t2] ty #[.slice (some ⟨g, 0, none⟩) sLen sCap, u]).run P w =
      .ok (.slice (some ⟨g, 0, none⟩) (sLen + m) sCap) (w.setRow g (cur.toList.take (sLen * i.size) ++ news ++ cur.toList.drop (sLen * i.size + news.length)).toArray) := by
  obtain ⟨a, cap, rfl⟩ := hu
  have hst := run_storeCells_at P g (sLen * i.size) T news 0 cur w hg (by simpa using hfit) h1
  simp only [Nat.add_zero] at hst
  simp [Builtin.append_, run_underlying ht, run_underlying ht2, sizeOf, typeInfo, hi, Builtin.lenOf, hroom, hf, Addr.add_lit, hst]

/-- The model's append into a new row. -/
theorem run_append_new {t ty e : TypeId} {t2 : TypeId} {d2 : TypeDesc} {i : TypeInfo} {z : Value} (ht : P.underlying t = some (.slice e)) (ht2 : P.underlying t2 = some d2) (hd2 : ∀ k, d2 ≠ .int k) (hi : P.info? e = some i) (hz : i.zero = some z) {w : World}
    {a0 : Option Addr} {sLen sCap m : Nat} {olds : List Value} (hfo : (Builtin.firstCells i.size sLen (.slice a0 sLen sCap)).run P w.drew = .ok olds.toArray w.drew)
    {u : Value} {news : List Value} (hu : ∃ a cap, u = .slice a m cap)
    (hf : (Builtin.firstCells i.size m u).run P w.drew = .ok news.toArray w.drew) (hg : sCap < sLen + m) (hb : (sLen + m) * i.bytes ≤ 140737488355328) (h63 : sLen + m ≤ 9223372036854775807) :
    (Builtin.append_ #[t, t2] ty #[.slice a0 sLen sCap, u]).run P w =
      .ok (.slice (some ⟨w.heap.size, 0, none⟩) (sLen + m) (grownCap w (sLen + m) sCap e))
        (w.drew.alloc (.cells (olds.toArray ++ news.toArray ++ Builtin.zeroCells z.cells (grownCap w (sLen + m) sCap e - (sLen + m))) e)) := by
  obtain ⟨a, cap, rfl⟩ := hu
  have hfit := growslice_fits hg hb
  have hn : ¬ (sLen + m ≤ sCap) := by omega
  have h63' : ¬ (9223372036854775807 < ((sLen : Int) + (m : Int))) := by omega
  have h48' : ¬ (281474976710656 < Builtin.nextslicecap (sLen + m) sCap * i.bytes) := by omega
  simp [Builtin.append_, run_underlying ht, run_underlying ht2, sizeOf, typeInfo, zeroValue, hi, hz, Builtin.lenOf, hn, h63', h48', Question.forced, hf, hfo, newRow, grownCap]
  congr 2
  apply Array.ext'
  simp [List.append_assoc]
end Go.Vc
namespace Go.Vc
variable {P : Program} {T : TT} {E : Entry} {w : World} {ρ : Nat → Nat} {A : FA} {S : FS} {tm : Nat} {a : Act}

theorem href_new {H : Nat → AO} {k : Nat} {r : AV} {v : Value} (hd : H k = .dead) (hr : refOf r = some k) (h : RepV (ctxOf E H w ρ A) r v) : False := by
  have hisr : isRef r = true := by cases r <;> simp_all [refOf, isRef]
  obtain ⟨k', hk', ha⟩ := RepO.alive_of hisr h
  rw [hr] at hk'
  cases hk'
  exact ha hd

/-- A new block. -/
theorem Sat.alloc (h : Sat E S tm a w ρ A) {n : Nat} (hn0 : E.n0 ≤ n) (hn : S.H n = .dead) {o : AO} {vs : Array Value} {ty : TypeId}
    (hobj : ∀ c : Ctx, (∀ r v, RepV (ctxOf E S.H w ρ A) r v → RepV c r v) → c.w.heap[c.ρ n]? = some (.cells vs ty (0, 0)) → RepO c n o) :
    Sat E ⟨S.env, setH S.H n o, S.F⟩ tm a (w.alloc (.cells vs ty)) (setρ ρ n w.heap.size) A := by
  have s : StepOk E S.H w ρ A n o w.heap.size (w.alloc (.cells vs ty)) (setH S.H n o) := by
    refine ⟨rfl, rfl, rfl, by simp, fun b' hb _ => heap_alloc_old w _ hb, fun _ => ⟨by simp, .inr (Nat.le_refl _)⟩, fun i hi => by simp [alive, setH, hi], by simp [setH], fun _ _ hlt => absurd hlt (by omega), fun _ hlt => absurd hlt (by omega), fun _ hlt => absurd hlt (by omega)⟩
  refine h.step s (fun href => hobj _ (fun r v hr => hr.stay (s.keeps h.toSatW) href) ?_) fun r v hr hv => (href_new hn hr hv).elim
  show (w.alloc _).heap[setρ ρ n w.heap.size n]? = _
  simp only [setρ, if_true]
  exact heap_alloc_new w _

/-- A write into the block of an object, all references staying good. -/
theorem Sat.write (h : Sat E S tm a w ρ A) {k : Nat} (ha : alive S.H k) {o : AO} (hinfo : o.info = (S.H k).info) (hcell : ∀ cs, S.H k = .cells cs → ∃ cs', o = .cells cs') {vs vs' : Array Value} {ty : TypeId}
    (hb : w.heap[ρ k]? = some (.cells vs ty (0, 0))) (hsz : vs.size ≤ vs'.size)
    (hobj : ∀ c : Ctx, (∀ r v, RepV (ctxOf E S.H w ρ A) r v → RepV c r v) → c.w.heap[c.ρ k]? = some (.cells vs' ty (0, 0)) → RepO c k o) :
    Sat E ⟨S.env, setH S.H k o, S.F⟩ tm a (w.setRow (ρ k) vs') (setρ ρ k (ρ k)) A := by
  have s : StepOk E S.H w ρ A k o (ρ k) (w.setRow (ρ k) vs') (setH S.H k o) := by
    refine ⟨rfl, rfl, rfl, by simp, fun b' _ hne => setRow_other w _ _ _ (hne ha), fun _ => ⟨by simpa using (h.place k ha).1, .inl ⟨ha, rfl⟩⟩, fun i hi => by simp [alive, setH, hi], by simp [setH], fun cs hcs _ => ⟨rfl, ?_⟩, fun _ _ _ => ⟨rfl, ha⟩, fun _ _ _ vs0 T0 fr0 h0 => ?_⟩
    rotate_left
    · rw [hb] at h0; cases h0; exact ⟨vs', ty, (0, 0), setRow_heap w _ vs vs' ty (0, 0) hb, hsz⟩
    rw [hcs] at hinfo
    cases hH : S.H k with
    | cells cs' => exact ⟨cs', rfl⟩
    | dead => exact absurd hH ha
    | iarr l => rw [hH] at hinfo; simp [AO.info] at hinfo
    | arr sz l => rw [hH] at hinfo; simp [AO.info] at hinfo
  have hw' : (w.setRow (ρ k) vs').heap[ρ k]? = some (.cells vs' ty (0, 0)) := setRow_heap w _ vs vs' ty (0, 0) hb
  refine h.step s (fun href => hobj _ (fun r v hr => hr.stay (s.keeps h.toSatW) href) (by simpa [setρ] using hw')) fun r v hr hv => ?_
  refine hv.ref_other hr (by simp [setρ]) (by simpa [setH] using hinfo) (fun cs hcs => by simpa [setH] using hcell cs hcs) fun vs0 T0 fr0 h0 => ?_
  have h0 : w.heap[ρ k]? = some (.cells vs0 T0 fr0) := h0
  rw [hb] at h0
  cases h0
  exact ⟨vs', ty, (0, 0), hw', hsz⟩

theorem fr_alloc {H : Nat → AO} {n : Nat} (hn : H n = .dead) {o : AO} {vs : Array Value} {ty : TypeId} {tch : Nat → Prop} : Fr H ρ w tch (setH H n o) (setρ ρ n w.heap.size) (w.alloc (.cells vs ty)) := by
  refine ⟨by simp, fun b hb _ => heap_alloc_old w _ hb, fun i hi => ?_, fun i hi _ => ?_⟩
  · by_cases e : i = n
    · subst e; simp [setρ]
    · simp only [setρ, if_neg e]
      exact .inl ⟨by simpa [alive, setH, e] using hi, trivial⟩
  · have e : i ≠ n := by rintro rfl; exact hi hn
    simp only [setρ, if_neg e]
    exact ⟨by simpa [alive, setH, e] using hi, trivial⟩
theorem Fr.of_drew {H H' : Nat → AO} {ρ' : Nat → Nat} {tch : Nat → Prop} {w' : World} (h : Fr H ρ w.drew tch H' ρ' w') : Fr H ρ w tch H' ρ' w' := ⟨h.size, h.same, h.src, h.keep⟩
theorem fr_write {H : Nat → AO} {k : Nat} (ha : alive H k) {o : AO} {vs : Array Value} {tch : Nat → Prop} (hk : tch k) : Fr H ρ w tch (setH H k o) ρ (w.setRow (ρ k) vs) := by
  refine ⟨by simp, fun b hb hn => setRow_other w _ _ _ (hn k ha hk).symm, fun i hi => ?_, fun i hi hn => ?_⟩
  · refine .inl ⟨?_, rfl⟩
    by_cases e : i = k
    · subst e; exact ha
    · simpa [alive, setH, e] using hi
  · have e : i ≠ k := by rintro rfl; exact hn hk
    exact ⟨by simpa [alive, setH, e] using hi, rfl⟩
theorem setρ_self (ρ : Nat → Nat) (k : Nat) : setρ ρ k (ρ k) = ρ := by
  funext i; simp only [setρ]; split <;> simp_all

/-- The object that a row of elements makes: integers by their numbers. -/
def isInt (te : TI) : Bool := te.kind == 6 && te.ik == .i64 && !te.agg && te.size == 1
def intsOf : List AV → (List Int → Prop) → Prop
  | [], K => K []
  | .val (.int .i64 n) :: r, K => intsOf r fun l => K (n :: l)
  | _ :: _, _ => False
def chunks (sz : Nat) : Nat → List AV → List (List AV)
  | 0, _ => []
  | n + 1, cs => cs.take sz :: chunks sz n (cs.drop sz)
def mkArr (te : TI) (n : Nat) (cs : List AV) (K : AO → Prop) : Prop :=
  if isInt te then intsOf cs fun l => K (.iarr l)
  else cs.all pureB = true ∧ K (.arr te.size (chunks te.size n cs))

def storeA (T : TT) (H : Nat → AO) (t : TypeId) (p x : AV) (K : Nat → AO → Prop) : Prop :=
  match T t, cellsOf x with
  | some ti, some cs => (ti.size == 0) = false ∧ cs.length = ti.size ∧ match p with
    | .ptr k off => match H k with
      | .cells ds => off + cs.length ≤ ds.length ∧ K k (.cells (splice ds off cs))
      | _ => False
    | .el k i off => match H k with
      | .iarr l => off = 0 ∧ intsOf cs fun
        | [x] => K k (.iarr (l.set i x))
        | _ => False
      | .arr sz l => cs.all pureB = true ∧ ∀ e, l[i]? = some e → off + cs.length ≤ sz ∧ K k (.arr sz (l.set i (splice e off cs)))
      | _ => False
    | _ => False
  | _, _ => False

def litInts : List AV → Option (List Int)
  | [] => some []
  | .val (.int .i64 n) :: r => match litInts r with
    | some l => some (n :: l)
    | none => none
  | _ :: _ => none
/-- The numbers that a source of an append holds. -/
def intsSrc (H : Nat → AO) (x : AV) : Option (List Int) :=
  match x with
  | .ints l => some l
  | .own k => match H k with
    | .iarr l => some l
    | _ => none
  | .sub k p q => match H k with
    | .iarr l => some ((l.drop p).take (q - p))
    | _ => none
  | .win k off n => match H k with
    | .cells cs => if off + n ≤ cs.length then litInts ((cs.drop off).take n) else none
    | _ => none
  | .val (.slice none 0 0) => some []
  | _ => none

/-- The append onto the first 'hi' elements of object k. -/
def appendTo (te : TI) (H : Nat → AO) (x : AV) (k hi : Nat) (K : Eff → Prop) : Prop :=
  match H k with
  | .iarr l => te.size = 1 ∧ match intsSrc H x with
    | some l2 => hi ≤ l.length ∧ (hi + l2.length) * te.bytes ≤ 140737488355328 ∧ hi + l2.length ≤ 9223372036854775807 ∧ K { val := .own k, kill := some k, upd := [(k, .iarr (l.take hi ++ l2))] }
    | none => False
  | .arr sz l => te.size = sz ∧ match srcA H x sz with
    | some es => hi ≤ l.length ∧ (hi + es.length) * te.bytes ≤ 140737488355328 ∧ hi + es.length ≤ 9223372036854775807 ∧ K { val := .own k, kill := some k, upd := [(k, .arr sz (l.take hi ++ es))] }
    | none => False
  | _ => False

def appendA (T : TT) (H : Nat → AO) (n : Nat) (t t2 : TypeId) (s x : AV) (K : Eff → Prop) : Prop :=
  match T t, T t2 with
  | some ti, some ti2 => ti.kind = 1 ∧ ti2.kind = 1 ∧ match T ti.elem with
    | some te => (te.size == 0) = false ∧ match s with
      | .own k => match H k with
        | .iarr l => appendTo te H x k l.length K
        | .arr _ l => appendTo te H x k l.length K
        | _ => False
      | .sub k 0 hi => appendTo te H x k hi K
      | .val (.slice none 0 0) =>
        if isInt te then match intsSrc H x with
          | some l => l.length * te.bytes ≤ 140737488355328 ∧ l.length ≤ 9223372036854775807 ∧ (l = [] → K { val := .val (.slice none 0 0) }) ∧ (l ≠ [] → K { val := .own n, new := [.iarr l] })
          | none => False
        else match srcA H x te.size with
          | some es => es.length * te.bytes ≤ 140737488355328 ∧ es.length ≤ 9223372036854775807 ∧ (es = [] → K { val := .val (.slice none 0 0) }) ∧ (es ≠ [] → K { val := .own n, new := [.arr te.size es] })
          | none => False
      | _ => False
    | none => False
  | _, _ => False

/-- Zeros appended: the second operand is their number. -/
def appendZ (T : TT) (H : Nat → AO) (t t2 : TypeId) (s x : AV) (K : Eff → Prop) : Prop :=
  match T t, T t2, x with
  | some ti, some ti2, .val (.int _ nl) => ti.kind = 1 ∧ ti2.kind = 6 ∧ 1 ≤ nl ∧ nl ≤ 1000000 ∧ match T ti.elem with
    | some te => isInt te = true ∧ te.zero = [.int .i64 0] ∧ te.bytes ≤ 8 ∧ match s with
      | .own k => match H k with
        | .iarr l => l.length ≤ 1000000 ∧ K { val := .own k, kill := some k, upd := [(k, .iarr (l ++ List.replicate nl.toNat 0))] }
        | _ => False
      | _ => False
    | none => False
  | _, _, _ => False
/-- An integer's type. -/
def isNum (T : TT) (t : TypeId) : Bool := match T t with
  | some ti => ti.kind == 6
  | none => false

/-- The copy into the cells of a struct's array. -/
def copyA (T : TT) (H : Nat → AO) (t : TypeId) (d x : AV) (K : Eff → Prop) : Prop :=
  match T t with
  | some ti => ti.kind = 1 ∧ match T ti.elem with
    | some te => te.size = 1 ∧ match d with
      | .win k off n => match H k, srcA H x 1 with
        | .cells cs, some es => off + n ≤ cs.length ∧ es.length ≤ n ∧ K { val := I es.length, upd := [(k, .cells (splice cs off es.flatten))] }
        | _, _ => False
      | _ => False
    | none => False
  | none => False

def memA (T : TT) (H : Nat → AO) (EV : Operand → AV) (n : Nat) (op : Op) (K : Eff → Prop) : Prop :=
  match op with
  | .alloc t => match T t with
    | some ti => K { val := .ptr n 0, new := [.cells (ti.zero.map .val)] }
    | none => False
  | .box _ x => match cellsOf (EV x) with
    | some cs => K { val := .ptr n 0, new := [.cells cs] }
    | none => False
  | .store t p x => storeA T H t (EV p) (EV x) fun k o => K { val := .val undef, upd := [(k, o)] }
  | .buildSlice t len parts => match T t with
    | some ti => ti.kind = 1 ∧ match T ti.elem with
      | some te => (te.size == 0) = false ∧ len * te.size ≤ 16777216 ∧ fillA (fun i => some (i * te.size, te.size)) ((List.replicate len (te.zero.map AV.val)).flatten) (parts.toList.map fun p => (p.1, EV p.2)) fun cs =>
          mkArr te len cs fun o => K { val := .own n, new := [o] }
      | none => False
    | none => False
  | .makeSlice t l c => match T t, EV l, EV c with
    | some ti, .val (.int _ nl), .val (.int _ nc) => ti.kind = 1 ∧ match T ti.elem with
      | some te => (te.size == 0) = false ∧ 0 ≤ nl ∧ nl ≤ nc ∧ te.bytes * nc ≤ 281474976710656 ∧ nc ≤ 9223372036854775807 ∧
          (if isInt te then te.zero = [.int .i64 0] ∧ K { val := .own n, new := [.iarr (List.replicate nl.toNat 0)] }
           else K { val := .own n, new := [.arr te.size (List.replicate nl.toNat (te.zero.map AV.val))] })
      | none => False
    | _, _, _ => False
  | .call { callee := .builtin .append, args, argTypes } => match args.toList, argTypes.toList with
    | [s, x], [t, t2] => if isNum T t2 then appendZ T H t t2 (EV s) (EV x) K else appendA T H n t t2 (EV s) (EV x) K
    | _, _ => False
  | .call { callee := .builtin .copy, args, argTypes } => match args.toList, argTypes.toList with
    | [d, x], [t, _] => copyA T H t (EV d) (EV x) K
    | _, _ => False
  | _ => False

theorem intsOf_sound : ∀ {cs : List AV} {K : List Int → Prop}, intsOf cs K → ∃ l, K l ∧ cs = l.map I
  | [], K, h => ⟨[], h, rfl⟩
  | .val (.int .i64 n) :: r, K, h => by
    obtain ⟨l, h1, h2⟩ := intsOf_sound (cs := r) h
    exact ⟨n :: l, h1, by rw [h2]; rfl⟩
  | .any :: _, _, h => h.elim
  | .agg _ :: _, _, h => h.elim
  | .tup _ :: _, _, h => h.elim
  | .ints _ :: _, _, h => h.elim
  | .bytes _ :: _, _, h => h.elim
  | .sl _ _ :: _, _, h => h.elim
  | .ro _ :: _, _, h => h.elim
  | .ptr _ _ :: _, _, h => h.elim
  | .el _ _ _ :: _, _, h => h.elim
  | .own _ :: _, _, h => h.elim
  | .sub _ _ _ :: _, _, h => h.elim
  | .win _ _ _ :: _, _, h => h.elim
  | .clo _ _ :: _, _, h => h.elim
  | .ifp _ _ _ :: _, _, h => h.elim
  | .rp _ _ _ :: _, _, h => h.elim
  | .iface _ _ :: _, _, h => h.elim
  | .val v :: r, K, h => by
    cases v with
    | int k n =>
      cases k <;> first | exact h.elim | skip
      obtain ⟨l, h1, h2⟩ := intsOf_sound (cs := r) h
      exact ⟨n :: l, h1, by rw [h2]; rfl⟩
    | _ => exact h.elim

theorem flat_icells : ∀ l : List Int, (icells l).flatten = l.map I
  | [] => rfl
  | n :: r => by
    have := flat_icells r
    simp only [icells, List.map_cons, List.flatten_cons] at this ⊢
    rw [this]; rfl

theorem chunks_spec {sz : Nat} : ∀ (n : Nat) (cs : List AV), cs.length = n * sz → (chunks sz n cs).length = n ∧ (∀ e ∈ chunks sz n cs, e.length = sz) ∧ (chunks sz n cs).flatten = cs
  | 0, cs, h => by
    have : cs = [] := List.eq_nil_of_length_eq_zero (by simpa using h)
    subst this
    simp [chunks]
  | n + 1, cs, h => by
    rw [Nat.add_mul, Nat.one_mul] at h
    obtain ⟨h1, h2, h3⟩ := chunks_spec (sz := sz) n (cs.drop sz) (by simp; omega)
    refine ⟨by simp [chunks, h1], fun e he => ?_, by simp [chunks, h3]⟩
    simp only [chunks, List.mem_cons] at he
    rcases he with rfl | he
    · simp; omega
    · exact h2 e he

/-- A block of known cells holds what mkArr says. -/
theorem mkArr_sound {te : TI} (hpos : 0 < te.size) {n : Nat} {cs : List AV} {K : AO → Prop} (h : mkArr te n cs K) (hlen : cs.length = n * te.size) :
    ∃ o, K o ∧ o ≠ .dead ∧ (∃ sz, o.info = some (sz, n) ∧ sz = te.size) ∧ ∀ (c : Ctx) (k : Nat) (vs : Array Value) (ty : TypeId), c.w.heap[c.ρ k]? = some (.cells vs ty (0, 0)) → RepL c cs vs.toList → RepO c k o := by
  unfold mkArr at h
  split at h
  · rename_i hi
    have hs : te.size = 1 := by
      simp only [isInt, Bool.and_eq_true, beq_iff_eq] at hi; exact hi.2
    obtain ⟨l, hK, rfl⟩ := intsOf_sound h
    simp only [List.length_map, hs, Nat.mul_one] at hlen
    refine ⟨_, hK, by simp, ⟨1, by simp [AO.info, hlen], hs.symm⟩, fun c k vs ty hb hr => ?_⟩
    rw [repO_iarr, repO_flat (by omega)]
    have hsz : vs.size = l.length := by have := hr.1; simpa using this
    refine ⟨vs, ty, hb, fun e he => ?_, hr.2.1, by rw [icells_length]; omega, ?_, fun x hx => ?_⟩
    · obtain ⟨i, hi'⟩ := List.mem_iff_getElem?.1 he
      obtain ⟨x, _, rfl⟩ := icells_get.1 hi'
      rfl
    · rw [flat_icells, icells_length, List.take_of_length_le (by simp; omega)]
      exact hr
    · rw [flat_icells] at hx
      obtain ⟨y, _, rfl⟩ := List.mem_map.1 hx
      rfl
  · obtain ⟨hp, hK⟩ := h
    obtain ⟨h1, h2, h3⟩ := chunks_spec (sz := te.size) n cs hlen
    refine ⟨_, hK, by simp, ⟨te.size, by simp [AO.info, h1], rfl⟩, fun c k vs ty hb hr => ?_⟩
    rw [repO_flat hpos]
    have hsz : vs.size = cs.length := by have := hr.1; simpa using this
    refine ⟨vs, ty, hb, h2, hr.2.1, by rw [h1]; omega, ?_, fun x hx => ?_⟩
    · rw [h3, h1, List.take_of_length_le (by simp; omega)]
      exact hr
    · rw [h3] at hx
      exact List.all_eq_true.1 hp x hx
end Go.Vc
namespace Go.Vc
variable {P : Program} {T : TT} {E : Entry} {w : World} {ρ : Nat → Nat} {A : FA} {S : FS} {tm : Nat} {a : Act} {o : Oper} {EV : Operand → AV} {n : Nat} {K : Eff → Prop} {Q : Exit → Act → World → Prop}

theorem fin_value {v : Value} {w' : World} {ρ' : Nat → Nat} {A' : FA} {e : Eff} (hrun : (execOp a.eval o).run P w = .ok (.value v) w') (hK : K e)
    (hs : Sat E ⟨killE e.kill S.env, extH (updH (killH e.kill S.H) e.upd) n e.new, addF S.F e.newF⟩ tm a w' ρ' A')
    (hv : RepV (ctxOf E (extH (updH (killH e.kill S.H) e.upd) n e.new) w' ρ' A') e.val v) (hfr : Fr S.H ρ w (tchE e) (extH (updH (killH e.kill S.H) e.upd) n e.new) ρ' w') : o.wp P a w (Fin E S tm n o.dst ρ w K) Q := by
  unfold Oper.wp
  rw [hrun]
  exact ⟨e, hK, ρ', A', hs.put o.dst hv, hfr⟩
theorem fin_skip {w' : World} {ρ' : Nat → Nat} {A' : FA} {e : Eff} (hrun : (execOp a.eval o).run P w = .ok .skip w') (hK : K e)
    (hs : Sat E ⟨killE e.kill S.env, extH (updH (killH e.kill S.H) e.upd) n e.new, addF S.F e.newF⟩ tm a w' ρ' A')
    (hv : RepV (ctxOf E (extH (updH (killH e.kill S.H) e.upd) n e.new) w' ρ' A') e.val undef) (hfr : Fr S.H ρ w (tchE e) (extH (updH (killH e.kill S.H) e.upd) n e.new) ρ' w') : o.wp P a w (Fin E S tm n o.dst ρ w K) Q := by
  unfold Oper.wp
  rw [hrun]
  exact ⟨e, hK, ρ', A', hs.put o.dst hv, hfr⟩

theorem alloc_sound (h : Sat E S tm a w ρ A) (hn0 : E.n0 ≤ n) (hn : S.H n = .dead) (hT : TOk P T) {t : TypeId} (hop : o.op = .alloc t)
    (hm : match T t with | some ti => K { val := .ptr n 0, new := [.cells (ti.zero.map .val)] } | none => False) : o.wp P a w (Fin E S tm n o.dst ρ w K) Q := by
  split at hm
  case h_2 => exact hm.elim
  case h_1 ti ht =>
    have ty := hT t ti ht
    obtain ⟨inf, z, hi, hsz, hby, hz, hzc⟩ := ty.info
    have hs := h.alloc (n := n) hn0 hn (o := .cells (ti.zero.map .val)) (vs := z.cells) (ty := t) (fun c _ hb => repO_cells.2 ⟨_, _, hb, by rw [hzc]; exact zero_rep ty.one⟩)
    refine fin_value (v := .pointer (some ⟨w.heap.size, 0, none⟩)) (e := { val := .ptr n 0, new := [.cells (ti.zero.map .val)] }) ?_ hm hs ?_ (fr_alloc hn)
    · simp [execOp, hop, Instr.alloc, zeroValue, typeInfo, hi, hz, newVar, newRow]
    · have : RepV (ctxOf E (setH S.H n (.cells (ti.zero.map .val))) (w.alloc (.cells z.cells t)) (setρ ρ n w.heap.size) A) (.ptr n 0) (.pointer (some ⟨setρ ρ n w.heap.size n, 0, none⟩)) := .ptr n 0 (ti.zero.map .val) (by simp [setH])
      rw [show setρ ρ n w.heap.size n = w.heap.size by simp [setρ]] at this
      exact this

theorem box_sound (h : Sat E S tm a w ρ A) (hn0 : E.n0 ≤ n) (hn : S.H n = .dead) (hev : ∀ x, RepV (ctxOf E S.H w ρ A) (EV x) (a.eval x)) {t : TypeId} {x : Operand} (hop : o.op = .box t x)
    (hm : match cellsOf (EV x) with | some cs => K { val := .ptr n 0, new := [.cells cs] } | none => False) : o.wp P a w (Fin E S tm n o.dst ρ w K) Q := by
  split at hm
  case h_2 => exact hm.elim
  case h_1 cs hcs =>
    have hr := cellsOf_rep hcs (hev x)
    have hs := h.alloc (n := n) hn0 hn (o := .cells cs) (vs := (a.eval x).cells) (ty := t) (fun c hm hb => repO_cells.2 ⟨_, _, hb, hr.mono fun a v _ => hm a v⟩)
    refine fin_value (v := .pointer (some ⟨w.heap.size, 0, none⟩)) (e := { val := .ptr n 0, new := [.cells cs] }) ?_ hm hs ?_ (fr_alloc hn)
    · simp [execOp, hop, Instr.box, newVar, newRow]
    · have : RepV (ctxOf E (setH S.H n (.cells cs)) (w.alloc (.cells (a.eval x).cells t)) (setρ ρ n w.heap.size) A) (.ptr n 0) (.pointer (some ⟨setρ ρ n w.heap.size n, 0, none⟩)) := .ptr n 0 cs (by simp [setH])
      rw [show setρ ρ n w.heap.size n = w.heap.size by simp [setρ]] at this
      exact this

theorem run_storeVar (hT : TOk P T) {t : TypeId} {ti : TI} (ht : T t = some ti) {g off : Nat} {cur : Array Value} {ty : TypeId} {w : World} (hg : w.heap[g]? = some (.cells cur ty (0, 0))) {v : Value}
    (hl : v.cells.size = ti.size) (hfit : off + v.cells.size ≤ cur.size) (h1 : ∀ u ∈ v.cells.toList, u.oneCell' = true) :
    (storeVar t ⟨g, off, none⟩ v).run P w = .ok () (w.setRow g (splice cur.toList off v.cells.toList).toArray) := by
  have hst := run_storeCells_at P g off ty v.cells.toList 0 cur w hg (by simpa using hfit) h1
  simp only [Nat.add_zero] at hst
  have hs := size_of hT ht w
  simp [storeVar, hs, hl, hst, splice, List.append_assoc]

theorem splice_size {cur : Array Value} {off : Nat} {x : List Value} (h : off + x.length ≤ cur.size) : (splice cur.toList off x).toArray.size = cur.size := by
  simp only [List.size_toArray]
  rw [length_splice _ _ _ (by simpa using h)]
  simp

/-- An element of a row, turned in place. -/
theorem flat_set {sz : Nat} : ∀ {l : List (List AV)}, (∀ e ∈ l, e.length = sz) → ∀ {i : Nat} {e x : List AV} {off : Nat}, l[i]? = some e → off + x.length ≤ sz →
    (l.set i (splice e off x)).flatten = splice l.flatten (i * sz + off) x
  | [], _, i, e, x, off, hi, _ => by simp at hi
  | y :: r, h, 0, e, x, off, hi, hl => by
    simp at hi
    subst hi
    have hy := h y (by simp)
    simp only [List.set_cons_zero, List.flatten_cons, Nat.zero_mul, Nat.zero_add, splice]
    rw [List.take_append_of_le_length (by omega), List.drop_append_of_le_length (by omega)]
    simp [List.append_assoc]
  | y :: r, h, i + 1, e, x, off, hi, hl => by
    simp at hi
    have hy := h y (by simp)
    have ih := flat_set (fun z hz => h z (by simp [hz])) hi hl
    simp only [List.set_cons_succ, List.flatten_cons]
    rw [ih]
    unfold splice
    have e1 : (i + 1) * sz + off = y.length + (i * sz + off) := by rw [hy, Nat.add_mul]; omega
    rw [e1, List.take_append, List.drop_append]
    have e2 : y.length + (i * sz + off) + x.length - y.length = i * sz + off + x.length := by omega
    have e3 : y.length + (i * sz + off) - y.length = i * sz + off := by omega
    rw [e2, e3, List.take_of_length_le (l := y) (by omega), List.drop_eq_nil_of_le (as := y) (by omega)]
    simp [List.append_assoc]

/-- The object behind a write into an element. -/
theorem elem_write {c c' : Ctx} {k sz : Nat} (hsz : 0 < sz) {l : List (List AV)} (ho : RepO c k (.arr sz l)) {vs : Array Value} {ty : TypeId} (hb : c.w.heap[c.ρ k]? = some (.cells vs ty (0, 0)))
    {i : Nat} {e cs : List AV} {us : List Value} {off : Nat} (hi : l[i]? = some e) (hl : off + cs.length ≤ sz) (hp : cs.all pureB = true) (hr : RepL c cs us) (hm : ∀ r v, RepV c r v → RepV c' r v)
    (hb' : c'.w.heap[c'.ρ k]? = some (.cells (splice vs.toList (i * sz + off) us).toArray ty (0, 0))) : RepO c' k (.arr sz (l.set i (splice e off cs))) := by
  obtain ⟨vs0, T0, h1, h5, h3, h2, h4, h6⟩ := (repO_flat hsz).1 ho
  rw [hb] at h1
  cases h1
  have he := h5 e (List.mem_of_getElem? hi)
  have hel : ∀ x ∈ l.set i (splice e off cs), x.length = sz := by
    intro x hx
    rcases List.mem_or_eq_of_mem_set hx with hx | rfl
    · exact h5 x hx
    · rw [length_splice _ _ _ (by omega)]; exact he
  have hil : i < l.length := (List.getElem?_eq_some_iff.1 hi).1
  have hm' : i * sz + sz ≤ l.length * sz := by
    have := Nat.mul_le_mul_right sz (show i + 1 ≤ l.length by omega)
    rw [Nat.add_mul, Nat.one_mul] at this; exact this
  have hus : us.length = cs.length := hr.1
  have hfl := flat_set h5 hi hl
  refine (repO_flat hsz).2 ⟨_, ty, hb', hel, fun v hv => ?_, by rw [splice_size (by omega)]; simpa using h2, ?_, fun x hx => ?_⟩
  · simp only [splice, List.mem_append] at hv
    rcases hv with hv | hv | hv
    · exact h3 v (List.mem_of_mem_take hv)
    · exact hr.2.1 v hv
    · exact h3 v (List.mem_of_mem_drop hv)
  · rw [hfl]
    have hsp := (h4.splice hr (i * sz + off)).mono (c' := c') fun a v _ => hm a v
    have e1 : splice (vs.toList.take (l.length * sz)) (i * sz + off) us = ((splice vs.toList (i * sz + off) us).toArray.toList).take ((l.set i (splice e off cs)).length * sz) := by
      simp only [splice, List.length_set]
      rw [List.take_take, Nat.min_eq_left (by omega), List.drop_take, ← List.append_assoc, ← List.append_assoc, List.take_append, List.take_of_length_le (l := List.take (i * sz + off) vs.toList ++ us) (by simp; omega)]
      congr 2
      simp
      omega
    rw [e1] at hsp
    exact hsp
  · rw [hfl] at hx
    simp only [splice, List.mem_append] at hx
    rcases hx with hx | hx | hx
    · exact h6 x (List.mem_of_mem_take hx)
    · exact List.all_eq_true.1 hp x hx
    · exact h6 x (List.mem_of_mem_drop hx)
end Go.Vc
namespace Go.Vc
variable {P : Program} {T : TT} {E : Entry} {w : World} {ρ : Nat → Nat} {A : FA} {S : FS} {tm : Nat} {a : Act} {o : Oper} {EV : Operand → AV} {n : Nat} {K : Eff → Prop} {Q : Exit → Act → World → Prop}

theorem store_sound (h : Sat E S tm a w ρ A) (hT : TOk P T) (hev : ∀ x, RepV (ctxOf E S.H w ρ A) (EV x) (a.eval x)) {t : TypeId} {p x : Operand} (hop : o.op = .store t p x)
    (hm : storeA T S.H t (EV p) (EV x) fun k ob => K { val := .val undef, upd := [(k, ob)] }) : o.wp P a w (Fin E S tm n o.dst ρ w K) Q := by
  unfold storeA at hm
  split at hm
  case h_2 => exact hm.elim
  case h_1 ti cs ht hcs =>
    obtain ⟨hnz, hlen, hm⟩ := hm
    have ty := hT t ti ht
    have hnz : ti.size ≠ 0 := by simpa using hnz
    have hr := cellsOf_rep hcs (hev x)
    have hvl : (a.eval x).cells.size = ti.size := by have := hr.1; simp at this; omega
    have hrun : ∀ {g off : Nat} {cur : Array Value} {bt : TypeId}, w.heap[g]? = some (.cells cur bt (0, 0)) → off + (a.eval x).cells.size ≤ cur.size → a.eval p = .pointer (some ⟨g, off, none⟩) →
        (execOp a.eval o).run P w = .ok .skip (w.setRow g (splice cur.toList off (a.eval x).cells.toList).toArray) := by
      intro g off cur bt hg hfit hp
      have := run_storeVar (P := P) hT ht hg hvl hfit hr.2.1
      simp [execOp, hop, hp, Instr.storeAt, Instr.sureAddr, this]
    have hp := hev p
    generalize hEp : EV p = ep at hm hp
    split at hm
    case h_3 => exact hm.elim
    case h_1 k off =>
      generalize hpv : a.eval p = pv at hp
      cases hp with
      | ptr _ _ ds' hk =>
        have ho := h.obj k
        split at hm
        case h_2 => exact hm.elim
        case h_1 ds hds =>
          obtain ⟨hfit, hK⟩ := hm
          rw [hds] at ho
          obtain ⟨vs, bt, hb, hrl⟩ := repO_cells.1 ho
          have hb : w.heap[ρ k]? = some (.cells vs bt (0, 0)) := hb
          have hvs : vs.size = ds.length := by have := hrl.1; simpa using this
          have hal : alive S.H k := by rw [alive, hds]; simp
          have hs := h.write (k := k) hal (o := .cells (splice ds off cs)) (by rw [hds]; rfl) (fun cs' _ => ⟨_, rfl⟩) hb (vs' := (splice vs.toList off (a.eval x).cells.toList).toArray) (by rw [splice_size (by simp; omega)]; exact Nat.le_refl _)
            (fun c hmv hb' => repO_cells.2 ⟨_, _, hb', by
              have := (hrl.splice hr off).mono (c' := c) fun a v _ => hmv a v
              simpa using this⟩)
          rw [setρ_self] at hs
          exact fin_skip (hrun hb (by omega) hpv) hK hs (.val _) (fr_write hal (.inl ⟨_, .head _⟩))
    case h_2 k i off =>
      generalize hpv : a.eval p = pv at hp
      cases hp with
      | el _ _ _ sz m hk hi =>
        have hk : (S.H k).info = some (sz, m) := hk
        have ho := h.obj k
        have key : ∀ (l : List (List AV)) (ob : AO), 0 < sz → RepO (ctxOf E S.H w ρ A) k (.arr sz l) → (∀ (c : Ctx), RepO c k (.arr sz (l.set i (splice (l.getD i []) off cs))) → RepO c k ob) → l.length = m →
            ob.info = (S.H k).info → (∀ cs', S.H k ≠ .cells cs') → cs.all pureB = true → off + cs.length ≤ sz → K { val := .val undef, upd := [(k, ob)] } → o.wp P a w (Fin E S tm n o.dst ρ w K) Q := by
          intro l ob hsz ho' hob hlm hinf hnc hpure hfit hK
          obtain ⟨vs, bt, hb, h5, h3, h2, h4, h6⟩ := (repO_flat hsz).1 ho'
          have hb : w.heap[ρ k]? = some (.cells vs bt (0, 0)) := hb
          have hil : i < l.length := by omega
          have hm' : i * sz + sz ≤ l.length * sz := by
            have := Nat.mul_le_mul_right sz (show i + 1 ≤ l.length by omega)
            rw [Nat.add_mul, Nat.one_mul] at this; exact this
          have hg : l[i]? = some (l.getD i []) := by simp [List.getD, hil]
          have hal : alive S.H k := by intro e; rw [e] at hk; simp [AO.info] at hk
          have hs := h.write (k := k) hal (o := ob) hinf (fun cs' hcs' => absurd hcs' (hnc cs')) hb (vs' := (splice vs.toList (i * sz + off) (a.eval x).cells.toList).toArray) (by rw [splice_size (by simp; omega)]; exact Nat.le_refl _)
            (fun c hmv hb' => hob c (elem_write hsz ho' hb hg hfit hpure hr hmv hb'))
          rw [setρ_self] at hs
          exact fin_skip (hrun hb (by omega) hpv) hK hs (.val _) (fr_write hal (.inl ⟨_, .head _⟩))
        split at hm
        case h_3 => exact hm.elim
        case h_1 l hl =>
          obtain ⟨rfl, hm⟩ := hm
          obtain ⟨ns, hK, rfl⟩ := intsOf_sound hm
          rw [hl] at hk ho
          simp only [AO.info, Option.some.injEq, Prod.mk.injEq] at hk
          obtain ⟨rfl, rfl⟩ := hk
          split at hK
          case h_2 => exact hK.elim
          case h_1 y =>
            refine key (icells l) (.iarr (l.set i y)) (by omega) (repO_iarr.1 ho) (fun c hc => ?_) (icells_length l) (by rw [hl]; simp [AO.info]) (fun cs' e => by rw [hl] at e; cases e) rfl (by simp) hK
            rw [repO_iarr]
            have hgd : (icells l).getD i [] = [I (l[i]'hi)] := by simp [icells, List.getD, hi]
            rw [hgd] at hc
            have e2 : icells (l.set i y) = (icells l).set i (splice [I (l[i]'hi)] 0 (List.map I [y])) := by simp [icells, splice, List.map_set]
            rw [e2]
            exact hc
        case h_2 sz' l hl =>
          obtain ⟨hpure, hm⟩ := hm
          rw [hl] at hk ho
          simp only [AO.info, Option.some.injEq, Prod.mk.injEq] at hk
          obtain ⟨rfl, rfl⟩ := hk
          have hg : l[i]? = some (l.getD i []) := by simp [List.getD, hi]
          obtain ⟨hfit, hK⟩ := hm _ hg
          have hpos : 0 < sz' := by omega
          exact key l _ hpos ho (fun c hc => hc) rfl (by rw [hl]; simp [AO.info]) (fun cs' e => by rw [hl] at e; cases e) hpure hfit hK

theorem range_mod {z : Array Value} {sz : Nat} (hz : z.size = sz) (hsz : 0 < sz) (m : Nat) : ((Array.range (m * sz)).map fun i => z[i % z.size]!).toList = (List.replicate m z.toList).flatten := by
  have hl : ∀ e ∈ List.replicate m z.toList, e.length = sz := by
    intro e he
    have := List.eq_of_mem_replicate he
    subst this
    simpa using hz
  have hfl : (List.replicate m z.toList).flatten.length = m * sz := by rw [flat_length hl]; simp
  apply List.ext_getElem?
  intro i
  by_cases hi : i < m * sz
  · have e1 : i = i / sz * sz + i % sz := by rw [Nat.mul_comm]; exact (Nat.div_add_mod i sz).symm
    have hd : i / sz < m := (Nat.div_lt_iff_lt_mul hsz).2 hi
    have hmo : i % sz < sz := Nat.mod_lt _ hsz
    have hg : (List.replicate m z.toList)[i / sz]? = some z.toList := by simp [hd]
    conv => rhs; rw [e1]
    rw [flat_get hl hg hmo]
    have hmz : i % sz < z.size := by omega
    have e2 : z[i % sz]! = z[i % sz] := getElem!_pos z _ hmz
    simp [hi, hz, e2]
  · rw [List.getElem?_eq_none (by simp; omega), List.getElem?_eq_none (by omega)]

theorem flat_map_val (m : Nat) (l : List Value) : (List.replicate m (l.map AV.val)).flatten = ((List.replicate m l).flatten).map AV.val := by
  rw [List.map_flatten, List.map_replicate]
theorem vals_rep {c : Ctx} {l : List Value} (h1 : ∀ v ∈ l, v.oneCell' = true) : RepL c (l.map .val) l := by
  refine ⟨by simp, h1, fun i a v ha hv => ?_⟩
  rw [List.getElem?_map, hv] at ha
  simp at ha
  subst ha
  exact .val _

theorem own_rep {c : Ctx} {k sz m cap : Nat} (hinf : (c.H k).info = some (sz, m)) (hcap : m ≤ cap ∧ cap ≤ 9223372036854775807) (hr : c.room k (cap * sz)) {b : Nat} (hb : c.ρ k = b) : RepV c (.own k) (.slice (some ⟨b, 0, none⟩) m cap) := by
  rw [← hb]; exact .own k sz m cap hinf hcap hr

theorem fold_set_size (off : Nat) : ∀ (zl : List (Value × Nat)) (v : Array Value), (zl.foldl (fun (cs : Array Value) (p : Value × Nat) => cs.setIfInBounds (off + p.2) p.1) v).size = v.size
  | [], v => rfl
  | y :: ys, v => by simp only [List.foldl_cons]; rw [fold_set_size off ys]; simp
theorem fill_size (pc : Nat → Option (Nat × Nat)) : ∀ (pl : List (Nat × Value)) (v v' : Array Value), Instr.fill pc v pl = some v' → v'.size = v.size
  | [], v, v', hf => by simp [Instr.fill] at hf; rw [hf]
  | (i, u) :: r, v, v', hf => by
    unfold Instr.fill at hf
    split at hf
    · cases hf
    · split at hf
      · cases hf
      · have := fill_size pc r _ _ hf
        rw [this, ← Array.foldl_toList]
        exact fold_set_size _ _ _

theorem run_buildSlice {t e : TypeId} (hu : P.underlying t = some (.slice e)) {inf : TypeInfo} (hi : P.info? e = some inf) {z : Value} (hz : inf.zero = some z) {len : Nat} (hbig : len * inf.size ≤ 16777216) {parts : Array (Nat × Value)} {vs0 out : Array Value}
    (hvs : vs0 = (Array.range (len * inf.size)).map fun i => z.cells[i % z.cells.size]!) (hfill : Instr.fill (fun i => some (i * inf.size, inf.size)) vs0 parts.toList = some out) (w : World) :
    (Instr.buildSlice t len parts).run P w = .ok (.slice (some ⟨w.heap.size, 0, none⟩) len len) (w.alloc (.cells out e)) := by
  have hb : ¬ (len * inf.size > 2 ^ 24) := by omega
  simp only [Instr.buildSlice, Sem.run_bind, run_underlying hu, Result.andThen_ok, sizeOf, typeInfo, run_program, hi, Sem.run_pure]
  rw [if_neg hb]
  by_cases h0 : len * inf.size = 0
  · have hA : ∀ f : Nat → Value, (Array.range (len * inf.size)).map f = vs0 := by
      intro f
      rw [hvs, h0]
      apply Array.ext'
      simp
    rw [if_pos h0]
    simp only [Sem.run_bind, Sem.run_pure, Result.andThen_ok, hA, hfill, newRow, run_newObj]
    rfl
  · rw [if_neg h0]
    simp only [zeroValue, typeInfo, Sem.run_bind, run_program, Result.andThen_ok, hi, Sem.run_pure, hz, ← hvs, hfill, newRow, run_newObj]
    rfl

theorem buildSlice_sound (h : Sat E S tm a w ρ A) (hn0 : E.n0 ≤ n) (hn : S.H n = .dead) (hT : TOk P T) (hev : ∀ x, RepV (ctxOf E S.H w ρ A) (EV x) (a.eval x)) {t : TypeId} {len : Nat} {parts : Array (Nat × Operand)} (hop : o.op = .buildSlice t len parts)
    (hm : match T t with
    | some ti => ti.kind = 1 ∧ match T ti.elem with
      | some te => (te.size == 0) = false ∧ len * te.size ≤ 16777216 ∧ fillA (fun i => some (i * te.size, te.size)) ((List.replicate len (te.zero.map AV.val)).flatten) (parts.toList.map fun p => (p.1, EV p.2)) fun cs =>
          mkArr te len cs fun o => K { val := .own n, new := [o] }
      | none => False
    | none => False) : o.wp P a w (Fin E S tm n o.dst ρ w K) Q := by
  split at hm
  case h_2 => exact hm.elim
  case h_1 ti ht =>
    obtain ⟨hk, hm⟩ := hm
    split at hm
    case h_2 => exact hm.elim
    case h_1 te hte =>
      obtain ⟨hnz, hbig, hm⟩ := hm
      have hnz : te.size ≠ 0 := by simpa using hnz
      have hu := (hT t ti ht).slice hk
      have tye := hT _ te hte
      obtain ⟨inf, z, hi, hsz, hby, hz, hzc⟩ := tye.info
      have hzs : z.cells.size = te.size := by rw [← tye.zlen, ← hzc]; simp
      have hpos : 0 < te.size := by omega
      have hvs0 := range_mod hzs hpos len
      rw [hzc] at hvs0
      have hr0 : RepL (ctxOf E S.H w ρ A) ((List.replicate len (te.zero.map AV.val)).flatten) ((Array.range (len * te.size)).map fun i => z.cells[i % z.cells.size]!).toList := by
        rw [flat_map_val, hvs0]
        refine vals_rep fun v hv => ?_
        obtain ⟨e, he, hve⟩ := List.mem_flatten.1 hv
        rw [List.eq_of_mem_replicate he] at hve
        exact tye.one v hve
      obtain ⟨out, cs, hfill, hmk, hr⟩ := fillA_sound (parts.toList.map fun p => (p.1, EV p.2)) (parts.toList.map fun p => (p.1, a.eval p.2)) _ _ (by simp) (fun j p q hp hq => by
        rw [List.getElem?_map] at hp hq
        obtain ⟨p0, hp0, rfl⟩ := Option.map_eq_some_iff.1 hp
        rw [hp0] at hq
        simp at hq
        subst hq
        exact ⟨rfl, hev _⟩) hr0 hm
      have hcl : cs.length = len * te.size := by
        have h1 := hr.1
        have h3 := fill_size _ _ _ _ hfill
        simp at h1 h3
        omega
      have h63 : len ≤ 9223372036854775807 := by
        have := Nat.le_mul_of_pos_right len hpos
        omega
      obtain ⟨ob, hK, hne, ⟨sz, hinf, hszt⟩, hobj⟩ := mkArr_sound hpos hmk hcl
      have hs := h.alloc (n := n) hn0 hn (o := ob) (vs := out) (ty := ti.elem) (fun c hmv hb => hobj c n out ti.elem hb (hr.mono fun a v _ => hmv a v))
      refine fin_value (v := .slice (some ⟨w.heap.size, 0, none⟩) len len) (e := { val := .own n, new := [ob] }) ?_ hK hs ?_ (fr_alloc hn)
      · have hrun := run_buildSlice (P := P) (t := t) hu hi hz (len := len) (by rw [hsz]; exact hbig) (parts := parts.map fun p => (p.1, a.eval p.2)) (out := out) rfl (by rw [hsz]; simpa using hfill) w
        have e : (parts.map fun (p : Nat × Operand) => (p.1, a.eval p.2)) = parts.map fun (i, x) => (i, a.eval x) := rfl
        simp [execOp, hop, hrun]
      · refine own_rep (sz := sz) (by simpa [extH, setH, updH, killH] using hinf) ⟨Nat.le_refl _, h63⟩ ⟨out, ti.elem, (0, 0), ?_, ?_⟩ (by simp [setρ])
        · show (w.alloc _).heap[setρ ρ n w.heap.size n]? = _
          simp only [setρ, if_true]
          exact heap_alloc_new w _
        · have := hr.1
          simp at this
          rw [hszt]; omega

theorem room_alloc {n : Nat} {vs : Array Value} {ty : TypeId} {H : Nat → AO} {m : Nat} (hm : m ≤ vs.size) : (ctxOf E H (w.alloc (.cells vs ty)) (setρ ρ n w.heap.size) A).room n m := by
  refine ⟨vs, ty, (0, 0), ?_, hm⟩
  show (w.alloc _).heap[setρ ρ n w.heap.size n]? = _
  simp only [setρ, if_true]
  exact heap_alloc_new w _
end Go.Vc
namespace Go.Vc
variable {P : Program} {T : TT} {E : Entry} {w : World} {ρ : Nat → Nat} {A : FA} {S : FS} {tm : Nat} {a : Act} {o : Oper} {EV : Operand → AV} {n : Nat} {K : Eff → Prop} {Q : Exit → Act → World → Prop}

theorem run_makeSlice {t e : TypeId} (hu : P.underlying t = some (.slice e)) {inf : TypeInfo} (hi : P.info? e = some inf) {z : Value} (hz : inf.zero = some z) {k k' : IntKind} {nl nc : Int} (h0 : 0 ≤ nl) (h1 : nl ≤ nc) (h2 : inf.bytes * nc ≤ 281474976710656)
    (h3 : nc ≤ 9223372036854775807) (w : World) :
    (Instr.makeSlice t (.int k nl) (.int k' nc)).run P w = .ok (.slice (some ⟨w.heap.size, 0, none⟩) nl.toNat nc.toNat) (w.alloc (.cells ((Array.range (nc.toNat * inf.size)).map fun i => z.cells[i % z.cells.size]!) e)) := by
  have hw1 : IntKind.i64.wrap nl = nl := rng_wrap (k := .i64) ⟨by omega, by omega⟩
  have hw2 : IntKind.i64.wrap nc = nc := rng_wrap (k := .i64) ⟨by omega, by omega⟩
  have hc : (decide (nc < 0) || decide ((inf.bytes : Int) * nc > 2 ^ 48) || decide (nl < 0) || decide (nl > nc)) = false := by
    have a1 : ¬ nc < 0 := by omega
    have a3 : ¬ nl < 0 := by omega
    have a4 : ¬ nl > nc := by omega
    simp [a1, a3, a4]
    exact h2
  simp only [Instr.makeSlice, Sem.run_bind, run_underlying hu, Result.andThen_ok, asInt, asIntOf, Sem.run_pure, typeInfo, run_program, hi, hw1, hw2, sizeOf]
  rw [if_neg (by rw [hc]; simp)]
  simp only [Sem.run_bind, run_askRoom, run_program, Result.andThen_ok, hi, Sem.run_pure]
  by_cases hn : nc.toNat * inf.size = 0
  · have hA : ∀ f : Nat → Value, (Array.range (nc.toNat * inf.size)).map f = (Array.range (nc.toNat * inf.size)).map fun i => z.cells[i % z.cells.size]! := by
      intro f; rw [hn]; apply Array.ext'; simp
    rw [if_pos hn]
    simp only [Sem.run_bind, Sem.run_pure, Result.andThen_ok, hA, newRow, run_newObj]
    rfl
  · rw [if_neg hn]
    simp only [zeroValue, typeInfo, Sem.run_bind, run_program, Result.andThen_ok, hi, Sem.run_pure, hz, newRow, run_newObj]
    rfl

theorem makeSlice_sound (h : Sat E S tm a w ρ A) (hn0 : E.n0 ≤ n) (hn : S.H n = .dead) (hT : TOk P T) (hev : ∀ x, RepV (ctxOf E S.H w ρ A) (EV x) (a.eval x)) {t : TypeId} {l c : Operand} (hop : o.op = .makeSlice t l c)
    (hm : match T t, EV l, EV c with
    | some ti, .val (.int _ nl), .val (.int _ nc) => ti.kind = 1 ∧ match T ti.elem with
      | some te => (te.size == 0) = false ∧ 0 ≤ nl ∧ nl ≤ nc ∧ te.bytes * nc ≤ 281474976710656 ∧ nc ≤ 9223372036854775807 ∧
          (if isInt te then te.zero = [.int .i64 0] ∧ K { val := .own n, new := [.iarr (List.replicate nl.toNat 0)] }
           else K { val := .own n, new := [.arr te.size (List.replicate nl.toNat (te.zero.map AV.val))] })
      | none => False
    | _, _, _ => False) : o.wp P a w (Fin E S tm n o.dst ρ w K) Q := by
  have hl := hev l
  have hc := hev c
  split at hm
  case h_2 => exact hm.elim
  case h_1 ti kl nl kc nc ht hEl hEc =>
    rw [hEl] at hl
    rw [hEc] at hc
    generalize hvl : a.eval l = vl at hl
    generalize hvc : a.eval c = vc at hc
    cases hl
    cases hc
    obtain ⟨hk, hm⟩ := hm
    split at hm
    case h_2 => exact hm.elim
    case h_1 te hte =>
      obtain ⟨hnz, h0, h1, h2, h3, hm⟩ := hm
      have hnz : te.size ≠ 0 := by simpa using hnz
      have hu := (hT t ti ht).slice hk
      have tye := hT _ te hte
      obtain ⟨inf, z, hi, hsz, hby, hz, hzc⟩ := tye.info
      have hzs : z.cells.size = te.size := by rw [← tye.zlen, ← hzc]; simp
      have hpos : 0 < te.size := by omega
      have hcs := range_mod hzs hpos nc.toNat
      rw [hzc] at hcs
      let out := (Array.range (nc.toNat * te.size)).map fun i => z.cells[i % z.cells.size]!
      have hout : out.toList = (List.replicate nc.toNat te.zero).flatten := hcs
      have houtsz : out.size = nc.toNat * te.size := by simp [out]
      have h1c : ∀ v ∈ out.toList, v.oneCell' = true := by
        rw [hout]
        intro v hv
        obtain ⟨e, he, hve⟩ := List.mem_flatten.1 hv
        rw [List.eq_of_mem_replicate he] at hve
        exact tye.one v hve
      have hle : nl.toNat ≤ nc.toNat := by omega
      have hmul : nl.toNat * te.size ≤ nc.toNat * te.size := Nat.mul_le_mul_right _ hle
      have htake : out.toList.take (nl.toNat * te.size) = (List.replicate nl.toNat te.zero).flatten := by
        rw [hout]
        have e : nc.toNat = nl.toNat + (nc.toNat - nl.toNat) := by omega
        rw [e, ← List.replicate_append_replicate, List.flatten_append, List.take_append_of_le_length, List.take_of_length_le]
        · rw [flat_length (sz := te.size) fun x hx => by rw [List.eq_of_mem_replicate hx]; exact tye.zlen]; simp
        · rw [flat_length (sz := te.size) fun x hx => by rw [List.eq_of_mem_replicate hx]; exact tye.zlen]; simp
      have hobj : ∀ c : Ctx, c.w.heap[c.ρ n]? = some (.cells out ti.elem (0, 0)) → RepO c n (.arr te.size (List.replicate nl.toNat (te.zero.map AV.val))) := by
        intro c hb
        rw [repO_flat hpos]
        refine ⟨out, ti.elem, hb, fun e he => by rw [List.eq_of_mem_replicate he]; simpa using tye.zlen, h1c, by simp; omega, ?_, fun x hx => ?_⟩
        · rw [List.length_replicate, htake, flat_map_val]
          refine vals_rep fun v hv => ?_
          obtain ⟨e, he, hve⟩ := List.mem_flatten.1 hv
          rw [List.eq_of_mem_replicate he] at hve
          exact tye.one v hve
        · rw [flat_map_val] at hx
          obtain ⟨y, _, rfl⟩ := List.mem_map.1 hx
          rfl
      have hrun : (execOp a.eval o).run P w = .ok (.value (.slice (some ⟨w.heap.size, 0, none⟩) nl.toNat nc.toNat)) (w.alloc (.cells out ti.elem)) := by
        have := run_makeSlice (P := P) (t := t) hu hi hz (k := kl) (k' := kc) h0 h1 (by rw [hby]; exact h2) h3 w
        rw [hsz] at this
        simp [execOp, hop, hvl, hvc, this, out]
      have hroom : nc.toNat * te.size ≤ out.size := by omega
      split at hm
      · rename_i hint
        obtain ⟨hz0, hK⟩ := hm
        have hs1 : te.size = 1 := by simp only [isInt, Bool.and_eq_true, beq_iff_eq] at hint; exact hint.2
        have hs := h.alloc (n := n) hn0 hn (o := .iarr (List.replicate nl.toNat 0)) (vs := out) (ty := ti.elem) (fun c _ hb => by
          rw [repO_iarr]
          have := hobj c hb
          rw [hs1, hz0] at this
          have e : icells (List.replicate nl.toNat 0) = List.replicate nl.toNat (List.map AV.val [Value.int .i64 0]) := by simp [icells]
          rw [e]; exact this)
        refine fin_value (e := { val := .own n, new := [.iarr (List.replicate nl.toNat 0)] }) hrun hK hs ?_ (fr_alloc hn)
        exact own_rep (sz := 1) (by simp [extH, setH, AO.info]) ⟨hle, by omega⟩ (room_alloc (by rw [hs1] at hroom; exact hroom)) (by simp [setρ])
      · have hs := h.alloc (n := n) hn0 hn (o := .arr te.size (List.replicate nl.toNat (te.zero.map AV.val))) (vs := out) (ty := ti.elem) (fun c _ hb => hobj c hb)
        refine fin_value (e := { val := .own n, new := [.arr te.size (List.replicate nl.toNat (te.zero.map AV.val))] }) hrun hm hs ?_ (fr_alloc hn)
        exact own_rep (sz := te.size) (by simp [extH, setH, AO.info]) ⟨hle, by omega⟩ (room_alloc hroom) (by simp [setρ])

/-- Object k grows: in its block, or in a new one. -/
theorem append_sound (h : Sat E S tm a w ρ A) (hT : TOk P T) {t t2 : TypeId} {ti ti2 te : TI} (ht : T t = some ti) (hk : ti.kind = 1) (ht2 : T t2 = some ti2) (hk2 : ti2.kind = 1) (hte : T ti.elem = some te) (hpos : 0 < te.size)
    {s x : Operand} (hop : o.op = .call { callee := .builtin .append, args := #[s, x], argTypes := #[t, t2] })
    {k hi cap : Nat} (hsv : a.eval s = .slice (some ⟨ρ k, 0, none⟩) hi cap) (hhc : cap ≤ 9223372036854775807) (hroom : (ctxOf E S.H w ρ A).room k (cap * te.size))
    {l es : List (List AV)} (ho : RepO (ctxOf E S.H w ρ A) k (.arr te.size l)) (hinf : (S.H k).info = some (te.size, l.length)) (hhl : hi ≤ l.length) {news : List Value} (hsrc : Src (ctxOf E S.H w ρ A) te.size es (a.eval x) news)
    (hb : (hi + es.length) * te.bytes ≤ 140737488355328) (h63 : hi + es.length ≤ 9223372036854775807) {ob : AO} (hob : ∀ c : Ctx, RepO c k (.arr te.size (l.take hi ++ es)) → RepO c k ob) (hoinf : ob.info = some (te.size, hi + es.length))
    (hK : K { val := .own k, kill := some k, upd := [(k, ob)] }) (hKf : ∀ e, K e → E.fx = true → ∀ k, e.kill = some k → E.n0 ≤ k) : o.wp P a w (Fin E S tm n o.dst ρ w K) Q := by
  have hkn := fun hfx => hKf _ hK hfx k rfl
  have ty := hT t ti ht
  have hu := ty.slice hk
  have hu2 := (hT t2 ti2 ht2).slice hk2
  have tye := hT _ te hte
  obtain ⟨inf, z, hi', hsz, hby, hz, hzc⟩ := tye.info
  have hzs : z.cells.size = te.size := by rw [← tye.zlen, ← hzc]; simp
  obtain ⟨vs, bt, hb0, h5, h3, h2, h4, h6⟩ := (repO_flat hpos).1 ho
  have hb0 : w.heap[ρ k]? = some (.cells vs bt (0, 0)) := hb0
  have hal : alive S.H k := by intro e; rw [e] at hinf; simp [AO.info] at hinf
  have hcapv : cap * te.size ≤ vs.size := by
    obtain ⟨vs', T', fr', h1, h2⟩ := hroom
    have h1 : w.heap[ρ k]? = some (.cells vs' T' fr') := h1
    rw [hb0] at h1
    cases h1
    exact h2
  have hhis : hi * te.size ≤ l.length * te.size := Nat.mul_le_mul_right _ hhl
  have hol : ob ≠ .dead := by intro e; rw [e] at hoinf; simp [AO.info] at hoinf
  have hel : ∀ e ∈ l.take hi ++ es, e.length = te.size := by
    intro e he
    rcases List.mem_append.1 he with he | he
    · exact h5 e (List.mem_of_mem_take he)
    · exact hsrc.el e he
  have hlen2 : (l.take hi ++ es).length = hi + es.length := by simp; omega
  have hflt : (l.take hi).flatten = l.flatten.take (hi * te.size) := by
    have h5' : ∀ e ∈ l.take hi, e.length = te.size := fun e he => h5 e (List.mem_of_mem_take he)
    have hsplit : l.flatten = (l.take hi).flatten ++ (l.drop hi).flatten := by rw [← List.flatten_append, List.take_append_drop]
    have hlt : (l.take hi).flatten.length = hi * te.size := by rw [flat_length h5', List.length_take, Nat.min_eq_left hhl]
    rw [hsplit, List.take_append_of_le_length (by omega), List.take_of_length_le (l := (l.take hi).flatten) (by omega)]
  have hfl2 : (l.take hi ++ es).flatten = l.flatten.take (hi * te.size) ++ es.flatten := by rw [List.flatten_append, hflt]
  have hpure : ∀ y ∈ (l.take hi ++ es).flatten, pureB y = true := by
    rw [hfl2]
    intro y hy
    rcases List.mem_append.1 hy with hy | hy
    · exact h6 y (List.mem_of_mem_take hy)
    · exact hsrc.pure y hy
  have hrl : RepL (ctxOf E S.H w ρ A) (l.take hi ++ es).flatten (vs.toList.take (hi * te.size) ++ news) := by
    rw [hfl2]
    have := (h4.take (hi * te.size)).append hsrc.rep
    rw [List.take_take, Nat.min_eq_left hhis] at this
    exact this
  have hrll : (vs.toList.take (hi * te.size) ++ news).length = (hi + es.length) * te.size := by rw [hrl.1, flat_length hel, hlen2]
  have hlen := hsrc.len
  -- both ways end in a block of known cells; the references to k are killed
  have fin : ∀ {v : Value} {w' : World} {b cap' : Nat} {vs' : Array Value} {bt' : TypeId}, (execOp a.eval o).run P w = .ok (.value v) w' → v = .slice (some ⟨b, 0, none⟩) (hi + es.length) cap' → (hi + es.length ≤ cap' ∧ cap' ≤ 9223372036854775807) → cap' * te.size ≤ vs'.size →
      StepOk E S.H w ρ A k ob b w' (mapH (killF k) S.H k ob) → w'.heap[b]? = some (.cells vs' bt' (0, 0)) → (∀ u ∈ vs'.toList, u.oneCell' = true) → vs'.toList.take ((hi + es.length) * te.size) = vs.toList.take (hi * te.size) ++ news →
      o.wp P a w (Fin E S tm n o.dst ρ w K) Q := by
    intro v w' b cap' vs' bt' hrun hv hcap' hcapsz st hb' h1c htake
    have kp := st.keeps h.toSatW
    have hne : ∀ r, refOf r ≠ some k → killF k r = r := fun r hr => by simp [killF, hr]
    have hgt : setρ ρ k b k = b := by simp [setρ]
    have hobj : RepO (ctxOf E (mapH (killF k) S.H k ob) w' (setρ ρ k b) A) k ob := by
      refine hob _ ((repO_flat hpos).2 ⟨vs', bt', by show w'.heap[setρ ρ k b k]? = _; rw [hgt]; exact hb', hel, h1c, ?_, ?_, hpure⟩)
      · rw [hlen2]
        exact Nat.le_trans (Nat.mul_le_mul_right _ hcap'.1) hcapsz
      · rw [hlen2, htake]
        exact hrl.mono fun y u hy hr => hr.pure_move kp (pureA_of_pureB (hpure y hy))
    have hs := h.stepMap (killF k) st hne hobj fun r u hr _ => by simp only [killF, hr, if_true]; exact .any u
    refine fin_value (e := { val := .own k, kill := some k, upd := [(k, ob)] }) hrun hK hs ?_ (Fr.of_step st fun _ => .inr rfl)
    rw [hv]
    refine own_rep (sz := te.size) ?_ hcap' ⟨vs', bt', (0, 0), ?_, hcapsz⟩ hgt
    · simpa [extH, updH, killH, setH] using hoinf
    · show w'.heap[setρ ρ k b k]? = _
      rw [hgt]; exact hb'
  have hal' : ∀ i, i ≠ k → (alive (mapH (killF k) S.H k ob) i ↔ alive S.H i) := fun i hi => by simp [alive, mapH, hi, mapO_dead]
  have hexec : ∀ {v w'}, (Builtin.append_ #[t, t2] o.type #[a.eval s, a.eval x]).run P w = .ok v w' → (execOp a.eval o).run P w = .ok (.value v) w' := by
    intro v w' hr
    simp [execOp, hop, resolve, invoke, builtin, hr]
  by_cases hfit : hi + es.length ≤ cap
  · have hnl : hi * te.size + news.length ≤ vs.size := by
      rw [hsrc.nl, ← Nat.add_mul]; exact Nat.le_trans (Nat.mul_le_mul_right _ hfit) hcapv
    have hr := run_append_fits (P := P) (ty := o.type) (t2 := t2) hu hu2 (by simp) hi' hb0 hlen (by rw [hsz]; exact hsrc.nl) (by rw [hsz]; exact hsrc.run P w rfl) hsrc.rep.2.1 hfit (by rw [hsz]; exact hnl)
    rw [← hsv] at hr
    rw [hsz] at hr
    let vs' := (vs.toList.take (hi * te.size) ++ news ++ vs.toList.drop (hi * te.size + news.length)).toArray
    have hvsz : vs'.size = vs.size := by simp [vs']; omega
    refine fin (b := ρ k) (vs' := vs') (bt' := bt) (hexec hr) rfl ⟨hfit, hhc⟩ (by rw [hvsz]; exact hcapv) ?_ (setRow_heap w _ vs _ bt (0, 0) hb0) ?_ ?_
    · exact ⟨rfl, rfl, rfl, by simp, fun b' _ hne => setRow_other w _ _ _ (hne hal), fun _ => ⟨by simpa using (h.place k hal).1, .inl ⟨hal, rfl⟩⟩, hal', by simp [mapH], fun cs e => by rw [e] at hoinf; simp [AO.info] at hoinf, fun hfx hlt => absurd (hkn hfx) (by omega), fun hfx hlt => absurd (hkn hfx) (by omega)⟩
    · intro u hu
      simp only [vs', List.mem_append] at hu
      rcases hu with (hu | hu) | hu
      · exact h3 u (List.mem_of_mem_take hu)
      · exact hsrc.rep.2.1 u hu
      · exact h3 u (List.mem_of_mem_drop hu)
    · simp only [vs']
      rw [List.take_append_of_le_length (by rw [hrll]; exact Nat.le_refl _), List.take_of_length_le (by rw [hrll]; exact Nat.le_refl _)]
  · have hfo : (Builtin.firstCells inf.size hi (.slice (some ⟨ρ k, 0, none⟩) hi cap)).run P w.drew = .ok (vs.toList.take (hi * te.size)).toArray w.drew := by
      refine run_firstCells_some w.drew inf.size hi _ _ _ _ (by rw [hsz]; simp; omega) fun j v hj => ?_
      rw [add_none, Nat.zero_add, World.cell?_drew, cell_of_row w _ _ vs bt (0, 0) hb0]
      rw [List.getElem?_take] at hj
      split at hj
      · simpa using hj
      · cases hj
    have hr := run_append_new (P := P) (ty := o.type) (t2 := t2) hu hu2 (by simp) hi' hz hfo hlen (by rw [hsz]; exact hsrc.run P w.drew rfl) (by omega) (by rw [hby]; exact hb) h63
    rw [← hsv] at hr
    have hge := grownCap_ge w (hi + es.length) cap ti.elem
    let vs' := (vs.toList.take (hi * te.size)).toArray ++ news.toArray ++ Builtin.zeroCells z.cells (grownCap w (hi + es.length) cap ti.elem - (hi + es.length))
    have hvsz : vs'.size = grownCap w (hi + es.length) cap ti.elem * te.size := by
      have h1 : vs'.size = (vs.toList.take (hi * te.size) ++ news).length + (grownCap w (hi + es.length) cap ti.elem - (hi + es.length)) * te.size := by
        simp [vs', size_zeroCells, hzs, Nat.add_assoc]
      rw [h1, hrll, ← Nat.add_mul]
      congr 1
      omega
    refine fin (b := w.heap.size) (vs' := vs') (bt' := ti.elem) (hexec hr) rfl ⟨hge, grownCap_le_maxLen _ _ _ _ (by unfold maxLen; omega)⟩ (by rw [hvsz]; exact Nat.le_refl _) ?_ (heap_alloc_new w.drew _) ?_ ?_
    · exact ⟨rfl, rfl, rfl, by simp, fun b' hb' _ => heap_alloc_old w.drew _ hb', fun _ => ⟨by simp, .inr (Nat.le_refl _)⟩, hal', by simp [mapH], fun cs e => by rw [e] at hoinf; simp [AO.info] at hoinf, fun hfx hlt => absurd (hkn hfx) (by omega), fun hfx hlt => absurd (hkn hfx) (by omega)⟩
    · intro u hu
      simp only [vs', Array.toList_append, List.mem_append] at hu
      rcases hu with (hu | hu) | hu
      · exact h3 u (List.mem_of_mem_take hu)
      · exact hsrc.rep.2.1 u hu
      · simp only [Builtin.zeroCells, Array.toList_map, List.mem_map] at hu
        obtain ⟨i, _, rfl⟩ := hu
        have hmo : i % z.cells.size < z.cells.size := Nat.mod_lt _ (by rw [hzs]; exact hpos)
        rw [getElem!_pos z.cells _ hmo]
        exact tye.one _ (by rw [← hzc]; simp)
    · simp only [vs', Array.toList_append]
      rw [List.take_append_of_le_length (by rw [hrll]; exact Nat.le_refl _), List.take_of_length_le (by rw [hrll]; exact Nat.le_refl _)]

structure SrcZ (c : Ctx) (sz : Nat) (es : List (List AV)) (news : List Value) : Prop where
  el : ∀ e ∈ es, e.length = sz
  nl : news.length = es.length * sz
  rep : RepL c es.flatten news
  pure : ∀ a ∈ es.flatten, pureB a = true
theorem flat_zeros : ∀ m : Nat, (icells (List.replicate m 0)).flatten = List.replicate m (I 0)
  | 0 => rfl
  | m + 1 => by
    have := flat_zeros m
    unfold icells at this ⊢
    rw [List.replicate_succ, List.map_cons, List.flatten_cons, this, List.replicate_succ]
    rfl
theorem wrap_nat {m : Nat} (h : m ≤ 9223372036854775807) : IntKind.i64.wrap (m : Int) = m := by
  rw [IntKind.wrap_i64]
  omega
/-- The model's append of zeros that fit. -/
theorem run_appendz_fits {t ty e : TypeId} {t2 : TypeId} {ik k0 : IntKind} {i : TypeInfo} {z : Value} (ht : P.underlying t = some (.slice e)) (ht2 : P.underlying t2 = some (.int ik)) (hi : P.info? e = some i) (hz : i.zero = some z) (_hzs : z.cells.size = i.size) {w : World}
    {g sLen sCap m : Nat} {cur : Array Value} {T : TypeId} (hg : w.heap[g]? = some (.cells cur T (0, 0))) {news : List Value} (hz0 : ¬ m * i.size = 0) (hn : (Builtin.zeroCells z.cells m).toList = news) (hb : m * i.bytes ≤ 140737488355328) (h63 : m ≤ 9223372036854775807)
    (h1 : ∀ u ∈ news, u.oneCell' = true) (hroom : sLen + m ≤ sCap) (hfit : sLen * i.size + news.length ≤ cur.size) :
    (Builtin.append_ #[t, t2] ty #[.slice (some ⟨g, 0, none⟩) sLen sCap, .int k0 m]).run P w =
      .ok (.slice (some ⟨g, 0, none⟩) (sLen + m) sCap) (w.setRow g (cur.toList.take (sLen * i.size) ++ news ++ cur.toList.drop (sLen * i.size + news.length)).toArray) := by
  have hst := run_storeCells_at P g (sLen * i.size) T news 0 cur w hg (by simpa using hfit) h1
  simp only [Nat.add_zero] at hst
  have hw := wrap_nat h63
  have h0 : ¬ ((m : Int) < 0) := by omega
  have h48 : ¬ (281474976710656 < (m : Int) * (i.bytes : Int)) := by
    have h := Int.ofNat_le.2 hb
    rw [Int.natCast_mul] at h
    omega
  simp [Builtin.append_, run_underlying ht, run_underlying ht2, sizeOf, typeInfo, zeroValue, hi, hz, asInt, asIntOf, hw, h0, h48, hroom, hz0, hn, Addr.add_lit, hst]
/-- The model's append of zeros into a new row. -/
theorem run_appendz_new {t ty e : TypeId} {t2 : TypeId} {ik k0 : IntKind} {i : TypeInfo} {z : Value} (ht : P.underlying t = some (.slice e)) (ht2 : P.underlying t2 = some (.int ik)) (hi : P.info? e = some i) (hz : i.zero = some z) (_hzs : z.cells.size = i.size) {w : World}
    {a0 : Option Addr} {sLen sCap m : Nat} {olds : List Value} (hfo : (Builtin.firstCells i.size sLen (.slice a0 sLen sCap)).run P w.drew = .ok olds.toArray w.drew)
    {news : List Value} (hz0 : ¬ m * i.size = 0) (hn : (Builtin.zeroCells z.cells m).toList = news) (hb2 : m * i.bytes ≤ 140737488355328) (hm63 : m ≤ 9223372036854775807) (hb : (sLen + m) * i.bytes ≤ 140737488355328) (h63 : sLen + m ≤ 9223372036854775807) (hg : sCap < sLen + m) :
    (Builtin.append_ #[t, t2] ty #[.slice a0 sLen sCap, .int k0 m]).run P w =
      .ok (.slice (some ⟨w.heap.size, 0, none⟩) (sLen + m) (grownCap w (sLen + m) sCap e))
        (w.drew.alloc (.cells (olds.toArray ++ news.toArray ++ Builtin.zeroCells z.cells (grownCap w (sLen + m) sCap e - (sLen + m))) e)) := by
  have hfit := growslice_fits hg hb
  have hn1 : ¬ (sLen + m ≤ sCap) := by omega
  have h63' : ¬ (9223372036854775807 < ((sLen : Int) + (m : Int))) := by omega
  have h48' : ¬ (281474976710656 < Builtin.nextslicecap (sLen + m) sCap * i.bytes) := by omega
  have hw := wrap_nat hm63
  have h0 : ¬ ((m : Int) < 0) := by omega
  have h48 : ¬ (281474976710656 < (m : Int) * (i.bytes : Int)) := by
    have h := Int.ofNat_le.2 hb2
    rw [Int.natCast_mul] at h
    omega
  have hn2 : Builtin.zeroCells z.cells m = news.toArray := by rw [← hn]
  simp [Builtin.append_, run_underlying ht, run_underlying ht2, sizeOf, typeInfo, zeroValue, hi, hz, asInt, asIntOf, hw, h0, h48, hz0, hn2, hn1, h63', h48', Question.forced, hfo, newRow, grownCap]
  congr 2
  apply Array.ext'
  simp [List.append_assoc]
/-- Object k grows by zeros: in its block, or in a new one. -/
theorem appendz_sound (h : Sat E S tm a w ρ A) (hT : TOk P T) {t t2 : TypeId} {ti ti2 te : TI} (ht : T t = some ti) (hk : ti.kind = 1) (ht2 : T t2 = some ti2) (hk2 : ti2.kind = 6) (hte : T ti.elem = some te) (hpos : 0 < te.size)
    {s x : Operand} (hop : o.op = .call { callee := .builtin .append, args := #[s, x], argTypes := #[t, t2] })
    {k hi cap : Nat} (hsv : a.eval s = .slice (some ⟨ρ k, 0, none⟩) hi cap) (hhc : cap ≤ 9223372036854775807) (hroom : (ctxOf E S.H w ρ A).room k (cap * te.size))
    {l es : List (List AV)} (ho : RepO (ctxOf E S.H w ρ A) k (.arr te.size l)) (hinf : (S.H k).info = some (te.size, l.length)) (hhl : hi ≤ l.length) {news : List Value} (hsrc : SrcZ (ctxOf E S.H w ρ A) te.size es news) {k0 : IntKind} (hxv : a.eval x = .int k0 es.length) (hnews : ∀ z : Value, z.cells.toList = te.zero → (Builtin.zeroCells z.cells es.length).toList = news) (hb2 : es.length * te.bytes ≤ 140737488355328) (hnz : ¬ es.length * te.size = 0)
    (hb : (hi + es.length) * te.bytes ≤ 140737488355328) (h63 : hi + es.length ≤ 9223372036854775807) {ob : AO} (hob : ∀ c : Ctx, RepO c k (.arr te.size (l.take hi ++ es)) → RepO c k ob) (hoinf : ob.info = some (te.size, hi + es.length))
    (hK : K { val := .own k, kill := some k, upd := [(k, ob)] }) (hKf : ∀ e, K e → E.fx = true → ∀ k, e.kill = some k → E.n0 ≤ k) : o.wp P a w (Fin E S tm n o.dst ρ w K) Q := by
  have hkn := fun hfx => hKf _ hK hfx k rfl
  have ty := hT t ti ht
  have hu := ty.slice hk
  have hu2 := (hT t2 ti2 ht2).int hk2
  have tye := hT _ te hte
  obtain ⟨inf, z, hi', hsz, hby, hz, hzc⟩ := tye.info
  have hzs : z.cells.size = te.size := by rw [← tye.zlen, ← hzc]; simp
  obtain ⟨vs, bt, hb0, h5, h3, h2, h4, h6⟩ := (repO_flat hpos).1 ho
  have hb0 : w.heap[ρ k]? = some (.cells vs bt (0, 0)) := hb0
  have hal : alive S.H k := by intro e; rw [e] at hinf; simp [AO.info] at hinf
  have hcapv : cap * te.size ≤ vs.size := by
    obtain ⟨vs', T', fr', h1, h2⟩ := hroom
    have h1 : w.heap[ρ k]? = some (.cells vs' T' fr') := h1
    rw [hb0] at h1
    cases h1
    exact h2
  have hhis : hi * te.size ≤ l.length * te.size := Nat.mul_le_mul_right _ hhl
  have hol : ob ≠ .dead := by intro e; rw [e] at hoinf; simp [AO.info] at hoinf
  have hel : ∀ e ∈ l.take hi ++ es, e.length = te.size := by
    intro e he
    rcases List.mem_append.1 he with he | he
    · exact h5 e (List.mem_of_mem_take he)
    · exact hsrc.el e he
  have hlen2 : (l.take hi ++ es).length = hi + es.length := by simp; omega
  have hflt : (l.take hi).flatten = l.flatten.take (hi * te.size) := by
    have h5' : ∀ e ∈ l.take hi, e.length = te.size := fun e he => h5 e (List.mem_of_mem_take he)
    have hsplit : l.flatten = (l.take hi).flatten ++ (l.drop hi).flatten := by rw [← List.flatten_append, List.take_append_drop]
    have hlt : (l.take hi).flatten.length = hi * te.size := by rw [flat_length h5', List.length_take, Nat.min_eq_left hhl]
    rw [hsplit, List.take_append_of_le_length (by omega), List.take_of_length_le (l := (l.take hi).flatten) (by omega)]
  have hfl2 : (l.take hi ++ es).flatten = l.flatten.take (hi * te.size) ++ es.flatten := by rw [List.flatten_append, hflt]
  have hpure : ∀ y ∈ (l.take hi ++ es).flatten, pureB y = true := by
    rw [hfl2]
    intro y hy
    rcases List.mem_append.1 hy with hy | hy
    · exact h6 y (List.mem_of_mem_take hy)
    · exact hsrc.pure y hy
  have hrl : RepL (ctxOf E S.H w ρ A) (l.take hi ++ es).flatten (vs.toList.take (hi * te.size) ++ news) := by
    rw [hfl2]
    have := (h4.take (hi * te.size)).append hsrc.rep
    rw [List.take_take, Nat.min_eq_left hhis] at this
    exact this
  have hrll : (vs.toList.take (hi * te.size) ++ news).length = (hi + es.length) * te.size := by rw [hrl.1, flat_length hel, hlen2]
  -- both ways end in a block of known cells; the references to k are killed
  have fin : ∀ {v : Value} {w' : World} {b cap' : Nat} {vs' : Array Value} {bt' : TypeId}, (execOp a.eval o).run P w = .ok (.value v) w' → v = .slice (some ⟨b, 0, none⟩) (hi + es.length) cap' → (hi + es.length ≤ cap' ∧ cap' ≤ 9223372036854775807) → cap' * te.size ≤ vs'.size →
      StepOk E S.H w ρ A k ob b w' (mapH (killF k) S.H k ob) → w'.heap[b]? = some (.cells vs' bt' (0, 0)) → (∀ u ∈ vs'.toList, u.oneCell' = true) → vs'.toList.take ((hi + es.length) * te.size) = vs.toList.take (hi * te.size) ++ news →
      o.wp P a w (Fin E S tm n o.dst ρ w K) Q := by
    intro v w' b cap' vs' bt' hrun hv hcap' hcapsz st hb' h1c htake
    have kp := st.keeps h.toSatW
    have hne : ∀ r, refOf r ≠ some k → killF k r = r := fun r hr => by simp [killF, hr]
    have hgt : setρ ρ k b k = b := by simp [setρ]
    have hobj : RepO (ctxOf E (mapH (killF k) S.H k ob) w' (setρ ρ k b) A) k ob := by
      refine hob _ ((repO_flat hpos).2 ⟨vs', bt', by show w'.heap[setρ ρ k b k]? = _; rw [hgt]; exact hb', hel, h1c, ?_, ?_, hpure⟩)
      · rw [hlen2]
        exact Nat.le_trans (Nat.mul_le_mul_right _ hcap'.1) hcapsz
      · rw [hlen2, htake]
        exact hrl.mono fun y u hy hr => hr.pure_move kp (pureA_of_pureB (hpure y hy))
    have hs := h.stepMap (killF k) st hne hobj fun r u hr _ => by simp only [killF, hr, if_true]; exact .any u
    refine fin_value (e := { val := .own k, kill := some k, upd := [(k, ob)] }) hrun hK hs ?_ (Fr.of_step st fun _ => .inr rfl)
    rw [hv]
    refine own_rep (sz := te.size) ?_ hcap' ⟨vs', bt', (0, 0), ?_, hcapsz⟩ hgt
    · simpa [extH, updH, killH, setH] using hoinf
    · show w'.heap[setρ ρ k b k]? = _
      rw [hgt]; exact hb'
  have hal' : ∀ i, i ≠ k → (alive (mapH (killF k) S.H k ob) i ↔ alive S.H i) := fun i hi => by simp [alive, mapH, hi, mapO_dead]
  have hexec : ∀ {v w'}, (Builtin.append_ #[t, t2] o.type #[a.eval s, a.eval x]).run P w = .ok v w' → (execOp a.eval o).run P w = .ok (.value v) w' := by
    intro v w' hr
    simp [execOp, hop, resolve, invoke, builtin, hr]
  by_cases hfit : hi + es.length ≤ cap
  · have hnl : hi * te.size + news.length ≤ vs.size := by
      rw [hsrc.nl, ← Nat.add_mul]; exact Nat.le_trans (Nat.mul_le_mul_right _ hfit) hcapv
    have hr := run_appendz_fits (P := P) (ty := o.type) (t2 := t2) (k0 := k0) hu hu2 hi' hz (by rw [hzs, hsz]) hb0 (by rw [hsz]; exact hnz) (hnews z hzc) (by rw [hby]; exact hb2) (by omega) hsrc.rep.2.1 hfit (by rw [hsz]; exact hnl)
    rw [← hxv] at hr
    rw [← hsv] at hr
    rw [hsz] at hr
    let vs' := (vs.toList.take (hi * te.size) ++ news ++ vs.toList.drop (hi * te.size + news.length)).toArray
    have hvsz : vs'.size = vs.size := by simp [vs']; omega
    refine fin (b := ρ k) (vs' := vs') (bt' := bt) (hexec hr) rfl ⟨hfit, hhc⟩ (by rw [hvsz]; exact hcapv) ?_ (setRow_heap w _ vs _ bt (0, 0) hb0) ?_ ?_
    · exact ⟨rfl, rfl, rfl, by simp, fun b' _ hne => setRow_other w _ _ _ (hne hal), fun _ => ⟨by simpa using (h.place k hal).1, .inl ⟨hal, rfl⟩⟩, hal', by simp [mapH], fun cs e => by rw [e] at hoinf; simp [AO.info] at hoinf, fun hfx hlt => absurd (hkn hfx) (by omega), fun hfx hlt => absurd (hkn hfx) (by omega)⟩
    · intro u hu
      simp only [vs', List.mem_append] at hu
      rcases hu with (hu | hu) | hu
      · exact h3 u (List.mem_of_mem_take hu)
      · exact hsrc.rep.2.1 u hu
      · exact h3 u (List.mem_of_mem_drop hu)
    · simp only [vs']
      rw [List.take_append_of_le_length (by rw [hrll]; exact Nat.le_refl _), List.take_of_length_le (by rw [hrll]; exact Nat.le_refl _)]
  · have hfo : (Builtin.firstCells inf.size hi (.slice (some ⟨ρ k, 0, none⟩) hi cap)).run P w.drew = .ok (vs.toList.take (hi * te.size)).toArray w.drew := by
      refine run_firstCells_some w.drew inf.size hi _ _ _ _ (by rw [hsz]; simp; omega) fun j v hj => ?_
      rw [add_none, Nat.zero_add, World.cell?_drew, cell_of_row w _ _ vs bt (0, 0) hb0]
      rw [List.getElem?_take] at hj
      split at hj
      · simpa using hj
      · cases hj
    have hr := run_appendz_new (P := P) (ty := o.type) (t2 := t2) (k0 := k0) hu hu2 hi' hz (by rw [hzs, hsz]) hfo (by rw [hsz]; exact hnz) (hnews z hzc) (by rw [hby]; exact hb2) (by omega) (by rw [hby]; exact hb) h63 (by omega)
    rw [← hxv] at hr
    rw [← hsv] at hr
    have hge := grownCap_ge w (hi + es.length) cap ti.elem
    let vs' := (vs.toList.take (hi * te.size)).toArray ++ news.toArray ++ Builtin.zeroCells z.cells (grownCap w (hi + es.length) cap ti.elem - (hi + es.length))
    have hvsz : vs'.size = grownCap w (hi + es.length) cap ti.elem * te.size := by
      have h1 : vs'.size = (vs.toList.take (hi * te.size) ++ news).length + (grownCap w (hi + es.length) cap ti.elem - (hi + es.length)) * te.size := by
        simp [vs', size_zeroCells, hzs, Nat.add_assoc]
      rw [h1, hrll, ← Nat.add_mul]
      congr 1
      omega
    refine fin (b := w.heap.size) (vs' := vs') (bt' := ti.elem) (hexec hr) rfl ⟨hge, grownCap_le_maxLen _ _ _ _ (by unfold maxLen; omega)⟩ (by rw [hvsz]; exact Nat.le_refl _) ?_ (heap_alloc_new w.drew _) ?_ ?_
    · exact ⟨rfl, rfl, rfl, by simp, fun b' hb' _ => heap_alloc_old w.drew _ hb', fun _ => ⟨by simp, .inr (Nat.le_refl _)⟩, hal', by simp [mapH], fun cs e => by rw [e] at hoinf; simp [AO.info] at hoinf, fun hfx hlt => absurd (hkn hfx) (by omega), fun hfx hlt => absurd (hkn hfx) (by omega)⟩
    · intro u hu
      simp only [vs', Array.toList_append, List.mem_append] at hu
      rcases hu with (hu | hu) | hu
      · exact h3 u (List.mem_of_mem_take hu)
      · exact hsrc.rep.2.1 u hu
      · simp only [Builtin.zeroCells, Array.toList_map, List.mem_map] at hu
        obtain ⟨i, _, rfl⟩ := hu
        have hmo : i % z.cells.size < z.cells.size := Nat.mod_lt _ (by rw [hzs]; exact hpos)
        rw [getElem!_pos z.cells _ hmo]
        exact tye.one _ (by rw [← hzc]; simp)
    · simp only [vs', Array.toList_append]
      rw [List.take_append_of_le_length (by rw [hrll]; exact Nat.le_refl _), List.take_of_length_le (by rw [hrll]; exact Nat.le_refl _)]

theorem litInts_map : ∀ {cs : List AV} {l : List Int}, litInts cs = some l → cs = l.map I ∧ (l.map I).all pureB = true
  | [], l, h => by cases h; exact ⟨rfl, rfl⟩
  | x :: r, l, h => by
    unfold litInts at h
    split at h
    case h_1 heq => cases heq
    case h_2 n r' heq =>
      cases heq
      split at h
      case h_1 l' hl' =>
        cases h
        obtain ⟨h1, h2⟩ := litInts_map hl'
        exact ⟨by rw [h1]; rfl, by simp [pureB]⟩
      case h_2 => cases h
    case h_3 => cases h
theorem intsSrc_srcA {H : Nat → AO} {x : AV} {l : List Int} (h : intsSrc H x = some l) : srcA H x 1 = some (icells l) := by
  unfold intsSrc at h
  unfold srcA
  split at h
  case h_1 l' => cases h; simp
  case h_2 k =>
    split at h
    case h_1 l' hl => cases h; simp [hl]
    case h_2 => cases h
  case h_3 k p q =>
    split at h
    case h_1 l' hl => cases h; simp [hl]
    case h_2 => cases h
  case h_4 k off n =>
    split at h
    case h_2 => cases h
    case h_1 cs hcs =>
      split at h
      case isFalse => cases h
      case isTrue hle =>
        obtain ⟨e1, e2⟩ := litInts_map h
        simp only [hcs]
        rw [if_pos ⟨trivial, hle, by rw [e1]; exact e2⟩, e1]
        simp [icells]
  case h_5 => cases h; simp [icells]
  case h_6 => cases h

/-- The append onto nil. -/
theorem append_nil_sound (h : Sat E S tm a w ρ A) (hn0 : E.n0 ≤ n) (hn : S.H n = .dead) (hT : TOk P T) {t t2 : TypeId} {ti ti2 te : TI} (ht : T t = some ti) (hk : ti.kind = 1) (ht2 : T t2 = some ti2) (hk2 : ti2.kind = 1) (hte : T ti.elem = some te) (hpos : 0 < te.size)
    {s x : Operand} (hop : o.op = .call { callee := .builtin .append, args := #[s, x], argTypes := #[t, t2] }) (hsv : a.eval s = .slice none 0 0)
    {es : List (List AV)} {news : List Value} (hsrc : Src (ctxOf E S.H w ρ A) te.size es (a.eval x) news) (hb : es.length * te.bytes ≤ 140737488355328) (h63 : es.length ≤ 9223372036854775807)
    {ob : AO} (hob : ∀ c : Ctx, RepO c n (.arr te.size es) → RepO c n ob) (hoinf : ob.info = some (te.size, es.length))
    (hK0 : es = [] → K { val := .val (.slice none 0 0) }) (hK1 : es ≠ [] → K { val := .own n, new := [ob] }) : o.wp P a w (Fin E S tm n o.dst ρ w K) Q := by
  have ty := hT t ti ht
  have hu := ty.slice hk
  have hu2 := (hT t2 ti2 ht2).slice hk2
  have tye := hT _ te hte
  obtain ⟨inf, z, hi', hsz, hby, hz, hzc⟩ := tye.info
  have hzs : z.cells.size = te.size := by rw [← tye.zlen, ← hzc]; simp
  have hlen := hsrc.len
  have hexec : ∀ {v w'}, (Builtin.append_ #[t, t2] o.type #[a.eval s, a.eval x]).run P w = .ok v w' → (execOp a.eval o).run P w = .ok (.value v) w' := by
    intro v w' hr
    simp [execOp, hop, resolve, invoke, builtin, hr]
  by_cases he : es = []
  · subst he
    obtain ⟨b, cap, hx⟩ := hlen
    have hr : (Builtin.append_ #[t, t2] o.type #[a.eval s, a.eval x]).run P w = .ok (.slice none 0 0) w := by
      have hf := hsrc.run P w rfl
      rw [hx] at hf ⊢
      rw [hsv]
      simp only [List.length_nil] at hf ⊢
      simp [Builtin.append_, run_underlying hu, run_underlying hu2, sizeOf, typeInfo, hi', Builtin.lenOf]
      rw [hsz, hf]
      rfl
    exact fin_value (e := { val := .val (.slice none 0 0) }) (hexec hr) (hK0 rfl) h (.val _) .refl
  · have hpos' : 0 < es.length := List.length_pos_iff.2 he
    have hfo : (Builtin.firstCells inf.size 0 (.slice none 0 0)).run P w.drew = .ok ([] : List Value).toArray w.drew := by simp [Builtin.firstCells]
    have hr := run_append_new (P := P) (ty := o.type) (t2 := t2) hu hu2 (by simp) hi' hz hfo hlen (by rw [hsz]; exact hsrc.run P w.drew rfl) (by omega) (by rw [hby, Nat.zero_add]; exact hb) (by omega)
    rw [← hsv, Nat.zero_add] at hr
    have hge := grownCap_ge w es.length 0 ti.elem
    let vs' := ([] : List Value).toArray ++ news.toArray ++ Builtin.zeroCells z.cells (grownCap w es.length 0 ti.elem - es.length)
    have hvsz : vs'.size = grownCap w es.length 0 ti.elem * te.size := by
      have h1 : vs'.size = news.length + (grownCap w es.length 0 ti.elem - es.length) * te.size := by simp [vs', size_zeroCells, hzs]
      rw [h1, hsrc.nl, ← Nat.add_mul]
      congr 1
      omega
    have kp : Keeps (ctxOf E S.H w ρ A) (ctxOf E S.H w.drew ρ A) := ⟨fun _ h => h, fun _ _ => rfl, fun _ h => h, fun _ _ => rfl, Nat.le_refl _, fun _ _ => rfl⟩
    have hs := h.drew.alloc (n := n) hn0 hn (o := ob) (vs := vs') (ty := ti.elem) (fun c hmv hb' => by
      refine hob c ((repO_flat hpos).2 ⟨vs', ti.elem, hb', hsrc.el, fun u hu => ?_, by rw [hvsz]; exact Nat.mul_le_mul_right _ hge, ?_, hsrc.pure⟩)
      · simp only [vs', Array.toList_append, List.mem_append] at hu
        rcases hu with (hu | hu) | hu
        · simp at hu
        · exact hsrc.rep.2.1 u hu
        · simp only [Builtin.zeroCells, Array.toList_map, List.mem_map] at hu
          obtain ⟨i, _, rfl⟩ := hu
          have hmo : i % z.cells.size < z.cells.size := Nat.mod_lt _ (by rw [hzs]; exact hpos)
          rw [getElem!_pos z.cells _ hmo]
          exact tye.one _ (by rw [← hzc]; simp)
      · have e : vs'.toList.take (es.length * te.size) = news := by
          simp only [vs', Array.toList_append, List.nil_append]
          rw [List.take_append_of_le_length (by rw [← hsrc.nl]; exact Nat.le_refl _), List.take_of_length_le (by rw [← hsrc.nl]; exact Nat.le_refl _)]
        rw [e]
        exact hsrc.rep.mono fun y u hy hr => hmv y u (hr.pure_move kp (pureA_of_pureB (hsrc.pure y hy))))
    refine fin_value (e := { val := .own n, new := [ob] }) (hexec hr) (hK1 he) hs ?_ (.of_drew (fr_alloc (w := w.drew) hn))
    exact own_rep (sz := te.size) (by simpa [extH, setH, updH, killH] using hoinf) ⟨hge, grownCap_le_maxLen _ _ _ _ (by unfold maxLen; omega)⟩ (room_alloc (w := w.drew) (by rw [hvsz]; exact Nat.le_refl _)) (by simp [setρ])

theorem appendTo_sound (h : Sat E S tm a w ρ A) (hT : TOk P T) {t t2 : TypeId} {ti ti2 te : TI} (ht : T t = some ti) (hk : ti.kind = 1) (ht2 : T t2 = some ti2) (hk2 : ti2.kind = 1) (hte : T ti.elem = some te) (hpos : 0 < te.size)
    {s x : Operand} (hop : o.op = .call { callee := .builtin .append, args := #[s, x], argTypes := #[t, t2] }) {ex : AV} (hx : RepV (ctxOf E S.H w ρ A) ex (a.eval x))
    {k hi cap sz m : Nat} (hsv : a.eval s = .slice (some ⟨ρ k, 0, none⟩) hi cap) (hhc : cap ≤ 9223372036854775807) (hinf : (S.H k).info = some (sz, m)) (hroom : (ctxOf E S.H w ρ A).room k (cap * sz)) (hm : appendTo te S.H ex k hi K) (hKf : ∀ e, K e → E.fx = true → ∀ k, e.kill = some k → E.n0 ≤ k) : o.wp P a w (Fin E S tm n o.dst ρ w K) Q := by
  have ho := h.obj k
  unfold appendTo at hm
  split at hm
  case h_3 => exact hm.elim
  case h_1 l hl =>
    obtain ⟨hs1, hm⟩ := hm
    rw [hl] at hinf ho
    simp only [AO.info, Option.some.injEq, Prod.mk.injEq] at hinf
    obtain ⟨rfl, rfl⟩ := hinf
    split at hm
    case h_2 => exact hm.elim
    case h_1 l2 hl2 =>
      obtain ⟨hhl, hb, h63, hK⟩ := hm
      obtain ⟨news, hsrc⟩ := srcA_sound h.toSatW (by omega) (intsSrc_srcA hl2) hx
      rw [repO_iarr] at ho
      refine append_sound (ob := .iarr (l.take hi ++ l2)) (l := icells l) (es := icells l2) h hT ht hk ht2 hk2 hte hpos hop hsv hhc (by rw [hs1]; exact hroom) (by rw [hs1]; exact ho) (by rw [hl, hs1, icells_length]; rfl) (by rw [icells_length]; exact hhl) (by rw [hs1]; exact hsrc)
        (by rw [icells_length]; exact hb) (by rw [icells_length]; exact h63) (fun c hc => ?_) (by rw [icells_length]; simp [AO.info, hs1]; omega) hK hKf
      rw [repO_iarr]
      have e : icells (l.take hi ++ l2) = (icells l).take hi ++ icells l2 := by simp [icells, List.map_take]
      rw [e, ← hs1]
      exact hc
  case h_2 s' l hl =>
    obtain ⟨hs1, hm⟩ := hm
    subst hs1
    rw [hl] at hinf ho
    simp only [AO.info, Option.some.injEq, Prod.mk.injEq] at hinf
    obtain ⟨rfl, rfl⟩ := hinf
    split at hm
    case h_2 => exact hm.elim
    case h_1 es hes =>
      obtain ⟨hhl, hb, h63, hK⟩ := hm
      obtain ⟨news, hsrc⟩ := srcA_sound h.toSatW hpos hes hx
      exact append_sound (ob := .arr te.size (l.take hi ++ es)) (l := l) (es := es) h hT ht hk ht2 hk2 hte hpos hop hsv hhc hroom ho (by rw [hl]; rfl) hhl hsrc hb h63 (fun c hc => hc) (by simp [AO.info]; omega) hK hKf

theorem appendA_sound (h : Sat E S tm a w ρ A) (hn0 : E.n0 ≤ n) (hn : S.H n = .dead) (hT : TOk P T) (hev : ∀ x, RepV (ctxOf E S.H w ρ A) (EV x) (a.eval x)) {t t2 : TypeId} {s x : Operand}
    (hop : o.op = .call { callee := .builtin .append, args := #[s, x], argTypes := #[t, t2] }) (hm : appendA T S.H n t t2 (EV s) (EV x) K) (hKf : ∀ e, K e → E.fx = true → ∀ k, e.kill = some k → E.n0 ≤ k) : o.wp P a w (Fin E S tm n o.dst ρ w K) Q := by
  have hx := hev x
  have hs := hev s
  unfold appendA at hm
  split at hm
  case h_2 => exact hm.elim
  case h_1 ti ti2 ht ht2 =>
    obtain ⟨hk, hk2, hm⟩ := hm
    split at hm
    case h_2 => exact hm.elim
    case h_1 te hte =>
      obtain ⟨hnz, hm⟩ := hm
      have hnz : te.size ≠ 0 := by simpa using hnz
      have hpos : 0 < te.size := by omega
      generalize hes : EV s = es at hm hs
      generalize hvs : a.eval s = vs at hs
      split at hm
      case h_4 => exact hm.elim
      case h_1 k =>
        cases hs with
        | own _ sz m cap hinf hcap hr =>
          have hinf' : (S.H k).info = some (sz, m) := hinf
          split at hm
          case h_3 => exact hm.elim
          case h_1 l hl =>
            have hi2 := hinf'
            rw [hl] at hi2
            simp only [AO.info, Option.some.injEq, Prod.mk.injEq] at hi2
            rw [hi2.2] at hm
            exact appendTo_sound h hT ht hk ht2 hk2 hte hpos hop hx hvs hcap.2 hinf' hr hm hKf
          case h_2 s' l hl =>
            have hi2 := hinf'
            rw [hl] at hi2
            simp only [AO.info, Option.some.injEq, Prod.mk.injEq] at hi2
            rw [hi2.2] at hm
            exact appendTo_sound h hT ht hk ht2 hk2 hte hpos hop hx hvs hcap.2 hinf' hr hm hKf
      case h_2 k hi =>
        cases hs with
        | sub _ sz m _ _ o' cap hinf h1 h2 hcap hr ho =>
          have ho' : o' = 0 := by
            rcases ho with ho | ho
            · simpa using ho
            · omega
          subst ho'
          rw [Nat.zero_add] at hr
          exact appendTo_sound h hT ht hk ht2 hk2 hte hpos hop hx hvs hcap.2 hinf hr hm hKf
      case h_3 =>
        cases hs
        split at hm
        · rename_i hint
          have hs1 : te.size = 1 := by simp only [isInt, Bool.and_eq_true, beq_iff_eq] at hint; exact hint.2
          split at hm
          case h_2 => exact hm.elim
          case h_1 l hl =>
            obtain ⟨hb, h63, hK0, hK1⟩ := hm
            obtain ⟨news, hsrc⟩ := srcA_sound h.toSatW (by omega) (intsSrc_srcA hl) hx
            rw [← hs1] at hsrc
            exact append_nil_sound (es := icells l) (ob := .iarr l) h hn0 hn hT ht hk ht2 hk2 hte hpos hop hvs hsrc (by rw [icells_length]; exact hb) (by rw [icells_length]; exact h63)
              (fun c hc => by rw [repO_iarr]; rw [hs1] at hc; exact hc) (by simp [AO.info, icells_length, hs1]) (fun e => hK0 (by simpa [icells] using e)) (fun e => hK1 (by simpa [icells] using e))
        · split at hm
          case h_2 => exact hm.elim
          case h_1 es' hes' =>
            obtain ⟨hb, h63, hK0, hK1⟩ := hm
            obtain ⟨news, hsrc⟩ := srcA_sound h.toSatW hpos hes' hx
            exact append_nil_sound (es := es') (ob := .arr te.size es') h hn0 hn hT ht hk ht2 hk2 hte hpos hop hvs hsrc hb h63 (fun c hc => hc) rfl hK0 hK1

theorem appendZ_sound (h : Sat E S tm a w ρ A) (hT : TOk P T) (hev : ∀ x, RepV (ctxOf E S.H w ρ A) (EV x) (a.eval x)) {t t2 : TypeId} {s x : Operand}
    (hop : o.op = .call { callee := .builtin .append, args := #[s, x], argTypes := #[t, t2] }) (hm : appendZ T S.H t t2 (EV s) (EV x) K) (hKf : ∀ e, K e → E.fx = true → ∀ k, e.kill = some k → E.n0 ≤ k) : o.wp P a w (Fin E S tm n o.dst ρ w K) Q := by
  have hx := hev x
  have hs := hev s
  unfold appendZ at hm
  split at hm
  case h_2 => exact hm.elim
  case h_1 ti ti2 k0 nl ht ht2 hxe =>
    obtain ⟨hk, hk2, n0, n1, hm⟩ := hm
    rw [hxe] at hx
    obtain ⟨m, rfl⟩ : ∃ m : Nat, nl = m := ⟨nl.toNat, by omega⟩
    have hxv : a.eval x = .int k0 m := by
      generalize a.eval x = y at hx
      cases hx
      rfl
    split at hm
    case h_2 => exact hm.elim
    case h_1 te hte =>
      obtain ⟨hint, hz0, hby, hm⟩ := hm
      have hs1 : te.size = 1 := by simp only [isInt, Bool.and_eq_true, beq_iff_eq] at hint; exact hint.2
      generalize hes : EV s = es at hm hs
      generalize hvs : a.eval s = vs at hs
      split at hm
      case h_2 => exact hm.elim
      case h_1 k =>
        split at hm
        case h_2 => exact hm.elim
        case h_1 l hl =>
          obtain ⟨hll, hK⟩ := hm
          cases hs with
          | own _ sz m' cap hinf hcap hr =>
            have hinf' : (S.H k).info = some (sz, m') := hinf
            rw [hl] at hinf'
            simp only [AO.info, Option.some.injEq, Prod.mk.injEq] at hinf'
            obtain ⟨rfl, rfl⟩ := hinf'
            have ho := h.obj k
            rw [hl, repO_iarr] at ho
            have e1 : ((m : Int)).toNat = m := by simp
            rw [e1] at hK
            have hlen : (icells (List.replicate m 0)).length = m := by simp [icells]
            have hfl : (icells (List.replicate m 0)).flatten = List.replicate m (I 0) := by
              exact flat_zeros m
            refine appendz_sound (ob := .iarr (l ++ List.replicate m 0)) (l := icells l) (es := icells (List.replicate m 0)) (news := List.replicate m (.int .i64 0)) h hT ht hk ht2 hk2 hte (by omega) hop hvs hcap.2 (by rw [hs1]; exact hr) (by rw [hs1]; exact ho) (by rw [hl, hs1, icells_length]; rfl) (by rw [icells_length]; exact Nat.le_refl _)
              ⟨fun e he => ?_, by rw [hlen, hs1]; simp, ?_, fun y hy => ?_⟩ (k0 := k0) (by rw [hlen]; exact hxv) (fun z hz => ?_) (by rw [hlen]; calc m * te.bytes ≤ 1000000 * 8 := Nat.mul_le_mul (by omega) hby
                                                                                                                           _ ≤ _ := by decide) (by rw [hlen, hs1]; omega) (by rw [hlen]; calc (l.length + m) * te.bytes ≤ 2000000 * 8 := Nat.mul_le_mul (by omega) hby
                                                                                                                                                                _ ≤ _ := by decide) (by rw [hlen]; omega) (fun c hc => ?_) (by simp [AO.info, hs1, hlen]) hK hKf
            · obtain ⟨y, _, rfl⟩ := List.mem_map.1 (show e ∈ List.map (fun y => [I y]) (List.replicate m 0) from he)
              rw [hs1]
              rfl
            · rw [hfl]
              refine ⟨by simp, fun u hu => ?_, fun j y u hj hu => ?_⟩
              · rw [List.eq_of_mem_replicate hu]; rfl
              · rw [List.eq_of_mem_replicate (List.mem_of_getElem? hj), List.eq_of_mem_replicate (List.mem_of_getElem? hu)]
                exact .val _
            · rw [hfl] at hy
              rw [List.eq_of_mem_replicate hy]
              rfl
            · rw [hlen]
              have hzc : z.cells = #[.int .i64 0] := by
                apply Array.ext'
                rw [hz, hz0]
              rw [hzc]
              apply List.ext_getElem
              · simp [Builtin.zeroCells]
              · intro i h1 h2
                simp [Builtin.zeroCells, Nat.mod_one]
            · rw [repO_iarr]
              rw [hs1, ← icells_length l, List.take_length] at hc
              have e : icells (l ++ List.replicate m 0) = icells l ++ icells (List.replicate m 0) := by simp [icells]
              rw [e]
              exact hc

theorem run_copy {t t2 e : TypeId} (hu : P.underlying t = some (.slice e)) {te : TI} (hT : TOk P T) (hte : T e = some te) {w : World} {g off n cap m : Nat} {cur : Array Value} {bt : TypeId} (hg : w.heap[g]? = some (.cells cur bt (0, 0))) {u : Value} {news : List Value} (hu2 : ∃ a cap, u = .slice a m cap)
    (hm : m ≤ n) (hf : (Builtin.firstCells te.size m u).run P w = .ok news.toArray w) (h1 : ∀ u ∈ news, u.oneCell' = true) (hfit : off + news.length ≤ cur.size) (ty : TypeId) :
    (Builtin.copy_ #[t, t2] ty #[.slice (some ⟨g, off, none⟩) n cap, u]).run P w = .ok (.int .i64 m) (w.setRow g (cur.toList.take off ++ news ++ cur.toList.drop (off + news.length)).toArray) := by
  obtain ⟨a, cap', rfl⟩ := hu2
  have hst := run_storeCells_at P g off bt news 0 cur w hg (by simpa using hfit) h1
  simp only [Nat.add_zero] at hst
  have hse := size_of hT hte w
  have hmn : Nat.min m n = m := Nat.min_eq_left hm
  simp [Builtin.copy_, run_underlying hu, Builtin.lenOf, hse, hmn, hf, hst, goInt]

theorem copyA_sound (h : Sat E S tm a w ρ A) (hT : TOk P T) (hev : ∀ x, RepV (ctxOf E S.H w ρ A) (EV x) (a.eval x)) {t t2 : TypeId} {s x : Operand}
    (hop : o.op = .call { callee := .builtin .copy, args := #[s, x], argTypes := #[t, t2] }) (hm : copyA T S.H t (EV s) (EV x) K) : o.wp P a w (Fin E S tm n o.dst ρ w K) Q := by
  have hx := hev x
  have hs := hev s
  unfold copyA at hm
  split at hm
  case h_2 => exact hm.elim
  case h_1 ti ht =>
    obtain ⟨hk, hm⟩ := hm
    split at hm
    case h_2 => exact hm.elim
    case h_1 te hte =>
      obtain ⟨hs1, hm⟩ := hm
      generalize hes : EV s = es at hm hs
      generalize hvs : a.eval s = vs at hs
      split at hm
      case h_2 => exact hm.elim
      case h_1 k off m =>
        split at hm
        case h_2 => exact hm.elim
        case h_1 cs es' hcs hes' =>
          obtain ⟨hfit, hle, hK⟩ := hm
          cases hs with
          | win _ _ _ cap cs' hk' hcap hr =>
            have ho := h.obj k
            rw [hcs] at ho
            obtain ⟨cur, bt, hb, hrl⟩ := repO_cells.1 ho
            have hb : w.heap[ρ k]? = some (.cells cur bt (0, 0)) := hb
            have hcl : cur.size = cs.length := by have := hrl.1; simpa using this
            obtain ⟨news, hsrc⟩ := srcA_sound h.toSatW (by omega) hes' hx
            have hnl := hsrc.nl
            have hal : alive S.H k := by rw [alive, hcs]; simp
            have hfl : es'.flatten.length = news.length := hsrc.rep.1.symm
            have hrun := run_copy (P := P) (t2 := t2) ((hT t ti ht).slice hk) hT hte hb (n := m) (cap := cap) (off := off) hsrc.len hle (by rw [hs1]; exact hsrc.run P w rfl) hsrc.rep.2.1 (by omega) o.type
            have hs' := h.write (k := k) hal (o := .cells (splice cs off es'.flatten)) (by rw [hcs]; rfl) (fun cs' _ => ⟨_, rfl⟩) hb (vs' := (splice cur.toList off news).toArray) (by rw [splice_size (by omega)]; exact Nat.le_refl _)
              (fun c hmv hb' => repO_cells.2 ⟨_, _, hb', by
                have := (hrl.splice hsrc.rep off).mono (c' := c) fun a v _ => hmv a v
                simpa using this⟩)
            rw [setρ_self] at hs'
            refine fin_value (e := { val := I es'.length, upd := [(k, .cells (splice cs off es'.flatten))] }) (v := .int .i64 es'.length) (w' := w.setRow (ρ k) (splice cur.toList off news).toArray) ?_ hK hs' (.val _) (fr_write hal (.inl ⟨_, .head _⟩))
            simp only [splice, ← List.append_assoc]
            simp [execOp, hop, resolve, invoke, builtin, hvs, hrun]
end Go.Vc
