/-
Rows of elements as rows of cells: what an array object holds, laid flat; the model's append, by where its source lies.
No conditions.
-/
import Derived.Test.YtgfpcjomgmdapaaVcAux
namespace Go.Vc
variable {P : Program} {T : TT} {E : Entry} {H : Nat → AO} {F : List Fam} {w : World} {ρ : Nat → Nat} {A : FA}

theorem flat_length {α : Type} {sz : Nat} : ∀ {l : List (List α)}, (∀ e ∈ l, e.length = sz) → l.flatten.length = l.length * sz
  | [], _ => by simp
  | e :: r, h => by
    simp only [List.flatten_cons, List.length_append, List.length_cons]
    rw [flat_length fun x hx => h x (by simp [hx]), h e (by simp), Nat.add_mul]
    omega
theorem flat_get {α : Type} {sz : Nat} : ∀ {l : List (List α)}, (∀ e ∈ l, e.length = sz) → ∀ {i : Nat} {e : List α} {j : Nat}, l[i]? = some e → j < sz → l.flatten[i * sz + j]? = e[j]?
  | [], _, i, e, j, hi, _ => by simp at hi
  | x :: r, h, 0, e, j, hi, hj => by
    simp at hi
    subst hi
    simp only [Nat.zero_mul, Nat.zero_add, List.flatten_cons]
    rw [List.getElem?_append_left (by rw [h x (by simp)]; exact hj)]
  | x :: r, h, i + 1, e, j, hi, hj => by
    simp at hi
    simp only [List.flatten_cons]
    have hx := h x (by simp)
    rw [List.getElem?_append_right (by rw [hx, Nat.add_mul]; omega), hx]
    have e1 : (i + 1) * sz + j - sz = i * sz + j := by rw [Nat.add_mul]; omega
    rw [e1]
    exact flat_get (fun y hy => h y (by simp [hy])) hi hj
theorem flat_get_inv {α : Type} {sz : Nat} (hsz : 0 < sz) : ∀ {l : List (List α)}, (∀ e ∈ l, e.length = sz) → ∀ {p : Nat} {a : α}, l.flatten[p]? = some a → ∃ i e j, p = i * sz + j ∧ j < sz ∧ l[i]? = some e ∧ e[j]? = some a
  | [], _, p, a, hp => by simp at hp
  | x :: r, h, p, a, hp => by
    have hx := h x (by simp)
    simp only [List.flatten_cons] at hp
    by_cases hlt : p < sz
    · rw [List.getElem?_append_left (by omega)] at hp
      exact ⟨0, x, p, by simp, hlt, rfl, hp⟩
    · rw [List.getElem?_append_right (by omega), hx] at hp
      obtain ⟨i, e, j, h1, h2, h3, h4⟩ := flat_get_inv hsz (fun y hy => h y (by simp [hy])) hp
      exact ⟨i + 1, e, j, by rw [Nat.add_mul]; omega, h2, by simpa using h3, h4⟩

/-- An array object, laid flat. -/
theorem repO_flat {c : Ctx} {k sz : Nat} (hsz : 0 < sz) {l : List (List AV)} : RepO c k (.arr sz l) ↔ ∃ vs T, c.w.heap[c.ρ k]? = some (.cells vs T (0, 0)) ∧ (∀ e ∈ l, e.length = sz) ∧ (∀ v ∈ vs.toList, v.oneCell' = true) ∧
    l.length * sz ≤ vs.size ∧ RepL c l.flatten (vs.toList.take (l.length * sz)) ∧ (∀ a ∈ l.flatten, pureB a = true) := by
  constructor
  · rintro ⟨vs, T, h1, h2, h3, h5, h4⟩
    have h5' : ∀ e ∈ l, e.length = sz := fun e he => by obtain ⟨i, hi⟩ := List.mem_iff_getElem?.1 he; exact h5 i e hi
    have hget : ∀ (p : Nat) a v, l.flatten[p]? = some a → (vs.toList.take (l.length * sz))[p]? = some v → RepV c a v ∧ pureB a = true := by
      intro p a v hp hv
      obtain ⟨i, e, j, rfl, hj, hi, hej⟩ := flat_get_inv hsz h5' hp
      rw [List.getElem?_take] at hv
      split at hv
      · exact h4 i e j a v hi hej (by simpa using hv)
      · cases hv
    refine ⟨vs, T, h1, h5', h3, h2, ⟨by rw [flat_length h5']; simp; omega, fun v hv => h3 v (List.mem_of_mem_take hv), fun p a v hp hv => (hget p a v hp hv).1⟩, fun a ha => ?_⟩
    obtain ⟨p, hp⟩ := List.mem_iff_getElem?.1 ha
    have hpl : p < l.length * sz := by rw [← flat_length h5']; exact (List.getElem?_eq_some_iff.1 hp).1
    exact (hget p a (vs.toList[p]'(by simp; omega)) hp (by rw [List.getElem?_take, if_pos hpl]; exact List.getElem?_eq_getElem _)).2
  · rintro ⟨vs, T, h1, h5, h3, h2, h4, h6⟩
    refine ⟨vs, T, h1, h2, h3, fun i e hi => h5 e (List.mem_of_getElem? hi), fun i e j a v hi hj hv => ?_⟩
    have hjs : j < sz := by rw [← h5 e (List.mem_of_getElem? hi)]; exact (List.getElem?_eq_some_iff.1 hj).1
    have hf : l.flatten[i * sz + j]? = some a := by rw [flat_get h5 hi hjs]; exact hj
    have hpl : i * sz + j < l.length * sz := by rw [← flat_length h5]; exact (List.getElem?_eq_some_iff.1 hf).1
    exact ⟨h4.2.2 _ a v hf (by rw [List.getElem?_take, if_pos hpl]; simpa using hv), h6 a (List.mem_of_getElem? hf)⟩

/-- The elements that a source of an append or a copy holds. -/
def srcA (H : Nat → AO) (x : AV) (sz : Nat) : Option (List (List AV)) :=
  match x with
  | .ints l => if sz = 1 then some (icells l) else none
  | .sl s l => if s = sz then some l else none
  | .own k => match H k with
    | .iarr l => if sz = 1 then some (icells l) else none
    | .arr s l => if s = sz then some l else none
    | _ => none
  | .sub k a b => match H k with
    | .iarr l => if sz = 1 then some (icells ((l.drop a).take (b - a))) else none
    | .arr s l => if s = sz then some ((l.drop a).take (b - a)) else none
    | _ => none
  | .win k off n => match H k with
    | .cells cs => if sz = 1 ∧ off + n ≤ cs.length ∧ ((cs.drop off).take n).all pureB = true then some (((cs.drop off).take n).map fun c => [c]) else none
    | _ => none
  | .val (.slice none 0 0) => some []
  | _ => none

/-- What is known of a source at run time. -/
structure Src (c : Ctx) (sz : Nat) (es : List (List AV)) (u : Value) (news : List Value) : Prop where
  len : ∃ a cap, u = .slice a es.length cap
  el : ∀ e ∈ es, e.length = sz
  nl : news.length = es.length * sz
  rep : RepL c es.flatten news
  pure : ∀ a ∈ es.flatten, pureB a = true
  run : ∀ (P : Program) (w' : World), w'.heap = c.w.heap → (Builtin.firstCells sz es.length u).run P w' = .ok news.toArray w'

theorem src_empty {c : Ctx} {sz : Nat} {a : Option Addr} {cap : Nat} : Src c sz [] (.slice a 0 cap) [] := by
  refine ⟨⟨a, cap, rfl⟩, by simp, by simp, .nil, by simp, fun P w' _ => ?_⟩
  cases a with
  | none => simp [Builtin.firstCells]
  | some a => simp [Builtin.firstCells, loadCells, loadCellsFrom]

theorem cell_heap {w w' : World} (h : w'.heap = w.heap) (a : Addr) : w'.cell? a = w.cell? a := by simp [World.cell?, h]

theorem src_sl {c : Ctx} {sz : Nat} (hsz : 0 < sz) {l : List (List AV)} {u : Value} (h : RepV c (.sl sz l) u) : ∃ news, Src c sz l u news := by
  cases h with
  | sl0 => exact ⟨[], src_empty⟩
  | sl _ _ b off cap vf hok hcap hl hc hh =>
    have hl' : ∀ e ∈ l, e.length = sz := fun e he => by obtain ⟨i, hi⟩ := List.mem_iff_getElem?.1 he; exact hl i e hi
    have hlen := flat_length hl'
    have hat : ∀ (p : Nat) a, l.flatten[p]? = some a → c.w.cell? ⟨b, off + p, none⟩ = some (vf (p / sz) (p % sz)) ∧ pureB a = true ∧ (vf (p / sz) (p % sz)).oneCell' = true ∧ RepV c a (vf (p / sz) (p % sz)) := by
      intro p a hp
      obtain ⟨i, e, j, rfl, hj, hi, hej⟩ := flat_get_inv hsz hl' hp
      have e1 : (i * sz + j) / sz = i := by rw [Nat.mul_comm, Nat.mul_add_div hsz, Nat.div_eq_of_lt hj, Nat.add_zero]
      have e2 : (i * sz + j) % sz = j := by rw [Nat.mul_comm, Nat.mul_add_mod, Nat.mod_eq_of_lt hj]
      rw [e1, e2, ← Nat.add_assoc]
      obtain ⟨h1, h2, h3⟩ := hc i e j a hi hej
      exact ⟨h1, h2, h3, hh i e j a hi hej⟩
    let news := (List.range (l.length * sz)).map fun p => vf (p / sz) (p % sz)
    have hnl : news.length = l.length * sz := by simp [news]
    have hng : ∀ (p : Nat) v, news[p]? = some v → p < l.length * sz ∧ v = vf (p / sz) (p % sz) := by
      intro p v hp
      have hpl : p < l.length * sz := by rw [← hnl]; exact (List.getElem?_eq_some_iff.1 hp).1
      simp only [news, List.getElem?_map, List.getElem?_range hpl, Option.map_some, Option.some.injEq] at hp
      exact ⟨hpl, hp.symm⟩
    have hfl : ∀ p, p < l.length * sz → ∃ a, l.flatten[p]? = some a := fun p hp => ⟨_, List.getElem?_eq_getElem (by rw [hlen]; exact hp)⟩
    refine ⟨news, ⟨_, cap, rfl⟩, hl', hnl, ⟨by rw [hnl, hlen], fun v hv => ?_, fun p a v hp hv => ?_⟩, fun a ha => ?_, fun P w' hw => ?_⟩
    · obtain ⟨p, hp⟩ := List.mem_iff_getElem?.1 hv
      obtain ⟨h1, rfl⟩ := hng p v hp
      obtain ⟨a, ha⟩ := hfl p h1
      exact (hat p a ha).2.2.1
    · obtain ⟨h1, rfl⟩ := hng p v hv
      exact (hat p a hp).2.2.2
    · obtain ⟨p, hp⟩ := List.mem_iff_getElem?.1 ha
      exact (hat p a hp).2.1
    · refine run_firstCells_some w' sz l.length _ _ _ news hnl fun p v hp => ?_
      obtain ⟨h1, rfl⟩ := hng p v hp
      obtain ⟨a, ha⟩ := hfl p h1
      rw [add_none, cell_heap hw]
      exact (hat p a ha).1

theorem src_cut {c : Ctx} {k sz : Nat} (hsz : 0 < sz) {l : List (List AV)} (ho : RepO c k (.arr sz l)) {p q o cap : Nat} (hp : p ≤ q) (hq : q ≤ l.length) (hoff : o = p * sz ∨ (cap = 0 ∧ q = p)) :
    ∃ news, Src c sz ((l.drop p).take (q - p)) (.slice (some ⟨c.ρ k, o, none⟩) (q - p) cap) news := by
  have hlen : ((l.drop p).take (q - p)).length = q - p := by simp; omega
  by_cases hpq : p = q
  · subst hpq
    refine ⟨[], ?_⟩
    have : (l.drop p).take (p - p) = [] := by simp
    rw [this, Nat.sub_self]
    exact src_empty
  · have hoff' : o = p * sz := by rcases hoff with h | h <;> omega
    subst hoff'
    obtain ⟨vs, T, h1, h5, h3, h2, h4, h6⟩ := (repO_flat hsz).1 ho
    have hsub : ∀ e ∈ (l.drop p).take (q - p), e ∈ l := fun e he => List.mem_of_mem_drop (List.mem_of_mem_take he)
    have hfl : ((l.drop p).take (q - p)).flatten = (l.flatten.drop (p * sz)).take ((q - p) * sz) := by
      have hl' : ∀ e ∈ (l.drop p).take (q - p), e.length = sz := fun e he => h5 e (hsub e he)
      apply List.ext_getElem?
      intro i
      by_cases hi : i < (q - p) * sz
      · rw [List.getElem?_take, if_pos hi, List.getElem?_drop]
        have e1 : i = i / sz * sz + i % sz := by rw [Nat.mul_comm]; exact (Nat.div_add_mod i sz).symm
        have hlt : i / sz < q - p := (Nat.div_lt_iff_lt_mul hsz).2 hi
        have hm : i % sz < sz := Nat.mod_lt _ hsz
        have hg : ((l.drop p).take (q - p))[i / sz]? = some (l[p + i / sz]'(by omega)) := by
          rw [List.getElem?_take, if_pos hlt, List.getElem?_drop]; exact List.getElem?_eq_getElem _
        have hg' : l[p + i / sz]? = some (l[p + i / sz]'(by omega)) := List.getElem?_eq_getElem _
        conv => lhs; rw [e1]
        rw [flat_get hl' hg hm]
        have e2 : p * sz + i = (p + i / sz) * sz + i % sz := by rw [Nat.add_mul]; omega
        rw [e2, flat_get h5 hg' hm]
      · have hle : (q - p) * sz ≤ i := by omega
        rw [List.getElem?_eq_none (by rw [flat_length hl', hlen]; exact hle), List.getElem?_eq_none (by simp; omega)]
    have hrep : RepL c ((l.drop p).take (q - p)).flatten (((vs.toList.take (l.length * sz)).drop (p * sz)).take ((q - p) * sz)) := by
      rw [hfl]; exact (h4.drop _).take _
    have hpm : p * sz + (q - p) * sz ≤ l.length * sz := by
      rw [← Nat.add_mul]; exact Nat.mul_le_mul_right _ (by omega)
    have hnl : (((vs.toList.take (l.length * sz)).drop (p * sz)).take ((q - p) * sz)).length = (q - p) * sz := by
      simp
      omega
    refine ⟨_, ⟨_, cap, by rw [hlen]⟩, fun e he => h5 e (hsub e he), by rw [hnl, hlen], hrep, fun a ha => ?_, fun P w' hw => ?_⟩
    · obtain ⟨e, he, hae⟩ := List.mem_flatten.1 ha
      exact h6 a (List.mem_flatten.2 ⟨e, hsub e he, hae⟩)
    · rw [hlen]
      refine run_firstCells_some w' sz (q - p) _ _ _ _ hnl fun j v hj => ?_
      rw [add_none, cell_heap hw, cell_of_row c.w _ _ vs T (0, 0) h1]
      rw [List.getElem?_take] at hj
      split at hj
      · rw [List.getElem?_drop, List.getElem?_take] at hj
        split at hj
        · simpa using hj
        · cases hj
      · cases hj

theorem srcA_sound (hs : SatW E H F w ρ A) {x : AV} {sz : Nat} (hsz : 0 < sz) {es : List (List AV)} {u : Value} (h : srcA H x sz = some es) (hx : RepV (ctxOf E H w ρ A) x u) : ∃ news, Src (ctxOf E H w ρ A) sz es u news := by
  unfold srcA at h
  split at h
  case h_1 l =>
    split at h
    · rename_i e
      cases h
      subst e
      obtain ⟨a, cap, rfl, _, hr⟩ := hx.ints_slice
      have := src_sl hsz hr
      exact this
    · cases h
  case h_2 s l =>
    split at h
    · rename_i e
      cases h
      subst e
      exact src_sl hsz hx
    · cases h
  case h_3 k =>
    have ho := hs.obj k
    cases hx with
    | own _ s n cap hk hcap hr =>
      have hk : (H k).info = some (s, n) := hk
      split at h
      case h_3 => cases h
      case h_1 l hl =>
        split at h
        · rename_i e
          cases h
          subst e
          rw [hl, repO_iarr] at ho
          rw [hl] at hk
          simp only [AO.info, Option.some.injEq, Prod.mk.injEq] at hk
          obtain ⟨rfl, rfl⟩ := hk
          have := src_cut (p := 0) (q := l.length) (o := 0) (cap := cap) hsz ho (Nat.zero_le _) (by rw [icells_length]; exact Nat.le_refl _) (.inl (by simp))
          simp only [Nat.sub_zero, List.drop_zero] at this
          rw [List.take_of_length_le (by rw [icells_length]; exact Nat.le_refl _)] at this
          exact this
        · cases h
      case h_2 s' l hl =>
        split at h
        · rename_i e
          cases h
          subst e
          rw [hl] at ho hk
          simp only [AO.info, Option.some.injEq, Prod.mk.injEq] at hk
          obtain ⟨rfl, rfl⟩ := hk
          have := src_cut (p := 0) (q := es.length) (o := 0) (cap := cap) hsz ho (Nat.zero_le _) (Nat.le_refl _) (.inl (by simp))
          simp only [Nat.sub_zero, List.drop_zero] at this
          rw [List.take_of_length_le (Nat.le_refl _)] at this
          exact this
        · cases h
  case h_4 k a b =>
    have ho := hs.obj k
    cases hx with
    | sub _ s n _ _ o cap hk h1 h2 hcap hr hoff =>
      have hk : (H k).info = some (s, n) := hk
      split at h
      case h_3 => cases h
      case h_1 l hl =>
        split at h
        · rename_i e
          cases h
          subst e
          rw [hl, repO_iarr] at ho
          rw [hl] at hk
          simp only [AO.info, Option.some.injEq, Prod.mk.injEq] at hk
          obtain ⟨rfl, rfl⟩ := hk
          have := src_cut (p := a) (q := b) (o := o) (cap := cap) hsz ho h1 (by rw [icells_length]; exact h2) (hoff.imp id fun h => ⟨h.1, h.2.1⟩)
          rw [← icells_cut] at this
          exact this
        · cases h
      case h_2 s' l hl =>
        split at h
        · rename_i e
          cases h
          subst e
          rw [hl] at ho hk
          simp only [AO.info, Option.some.injEq, Prod.mk.injEq] at hk
          obtain ⟨rfl, rfl⟩ := hk
          exact src_cut (p := a) (q := b) (o := o) (cap := cap) hsz ho h1 h2 (hoff.imp id fun h => ⟨h.1, h.2.1⟩)
        · cases h
  case h_5 k off n =>
    have ho := hs.obj k
    split at h
    case h_2 => cases h
    case h_1 cs hcs =>
      split at h
      case isFalse => cases h
      case isTrue hc =>
        cases h
        obtain ⟨rfl, hle, hall⟩ := hc
        rw [hcs] at ho
        obtain ⟨vs, T, h1, hrl⟩ := repO_cells.1 ho
        have hvl : vs.size = cs.length := by have := hrl.1; simpa using this
        have hfl : ∀ l : List AV, (l.map fun c => [c]).flatten = l := by
          intro l
          induction l with
          | nil => rfl
          | cons x r ih => simp only [List.map_cons, List.flatten_cons, ih]; rfl
        have hlen : (((cs.drop off).take n).map fun c => [c]).length = n := by simp; omega
        have hnl : ((vs.toList.drop off).take n).length = n * 1 := by simp; omega
        cases hx with
        | win _ _ _ cap cs' hk hcap hr =>
          refine ⟨(vs.toList.drop off).take n, ⟨_, cap, by rw [hlen]⟩, fun e he => ?_, by rw [hlen, hnl], by rw [hfl]; exact (hrl.drop _).take _, fun a ha => ?_, fun P w' hw => ?_⟩
          · obtain ⟨x, _, rfl⟩ := List.mem_map.1 he
            rfl
          · rw [hfl] at ha
            exact List.all_eq_true.1 hall a ha
          · rw [hlen]
            refine run_firstCells_some w' 1 n _ _ _ _ hnl fun j v hj => ?_
            rw [add_none, cell_heap hw]
            have h1 : w.heap[ρ k]? = some (.cells vs T (0, 0)) := h1
            show w.cell? ⟨ρ k, off + j, none⟩ = some v
            rw [cell_of_row w _ _ vs T (0, 0) h1]
            rw [List.getElem?_take] at hj
            split at hj
            · rw [List.getElem?_drop] at hj
              simpa using hj
            · cases hj
  case h_6 => cases h; cases hx; exact ⟨[], src_empty⟩
  case h_7 => cases h

/-- The model's append within the room. -/
theorem run_append_fits {t ty e : TypeId} {t2 : TypeId} {d2 : TypeDesc} {i : TypeInfo} (ht : P.underlying t = some (.slice e)) (ht2 : P.underlying t2 = some d2) (hd2 : ∀ k, d2 ≠ .int k) (hi : P.info? e = some i) {w : World}
    {g sLen sCap m : Nat} {cur : Array Value} {T : TypeId} (hg : w.heap[g]? = some (.cells cur T (0, 0))) {u : Value} {news : List Value} (hu : ∃ a cap, u = .slice a m cap) (_hl : news.length = m * i.size)
    (hf : (Builtin.firstCells i.size m u).run P w = .ok news.toArray w) (h1 : ∀ u ∈ news, u.oneCell' = true) (hroom : sLen + m ≤ sCap) (hfit : sLen * i.size + news.length ≤ cur.size) :
    (Builtin.append_ #[t, t2] ty #[.slice (some ⟨g, 0, none⟩) sLen sCap, u]).run P w =
      .ok (.slice (some ⟨g, 0, none⟩) (sLen + m) sCap) (w.setRow g (cur.toList.take (sLen * i.size) ++ news ++ cur.toList.drop (sLen * i.size + news.length)).toArray) := by
  obtain ⟨a, cap, rfl⟩ := hu
  have hst := run_storeCells_at P g (sLen * i.size) T news 0 cur w hg (by simpa using hfit) h1
  simp only [Nat.add_zero] at hst
  simp [Builtin.append_, run_underlying ht, run_underlying ht2, sizeOf, typeInfo, hi, Builtin.lenOf, hroom, hf, Addr.add_lit, hst]

/-- The model's append into a new row. -/
theorem run_append_new {t ty e : TypeId} {t2 : TypeId} {d2 : TypeDesc} {i : TypeInfo} {z : Value} (ht : P.underlying t = some (.slice e)) (ht2 : P.underlying t2 = some d2) (hd2 : ∀ k, d2 ≠ .int k) (hi : P.info? e = some i) (hz : i.zero = some z) {w : World}
    {a0 : Option Addr} {sLen sCap m : Nat} {olds : List Value} (hfo : (Builtin.firstCells i.size sLen (.slice a0 sLen sCap)).run P w.drew = .ok olds.toArray w.drew)
    {u : Value} {news : List Value} (hu : ∃ a cap, u = .slice a m cap)
    (hf : (Builtin.firstCells i.size m u).run P w.drew = .ok news.toArray w.drew) (hg : sCap < sLen + m) (hb : (sLen + m) * i.bytes ≤ 140737488355328) (h63 : sLen + m ≤ 9223372036854775807) :
    (Builtin.append_ #[t, t2] ty #[.slice a0 sLen sCap, u]).run P w =
      .ok (.slice (some ⟨w.heap.size, 0, none⟩) (sLen + m) (grownCap w (sLen + m) sCap e))
        (w.drew.alloc (.cells (olds.toArray ++ news.toArray ++ Builtin.zeroCells z.cells (grownCap w (sLen + m) sCap e - (sLen + m))) e)) := by
  obtain ⟨a, cap, rfl⟩ := hu
  have hfit := growslice_fits hg hb
  have hn : ¬ (sLen + m ≤ sCap) := by omega
  have h63' : ¬ (9223372036854775807 < ((sLen : Int) + (m : Int))) := by omega
  have h48' : ¬ (281474976710656 < Builtin.nextslicecap (sLen + m) sCap * i.bytes) := by omega
  simp [Builtin.append_, run_underlying ht, run_underlying ht2, sizeOf, typeInfo, zeroValue, hi, hz, Builtin.lenOf, hn, h63', h48', Question.forced, hf, hfo, newRow, grownCap]
  congr 2
  apply Array.ext'
  simp [List.append_assoc]
end Go.Vc
