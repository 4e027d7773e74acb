/-
That the memory operations of the model do what the abstract ones say, third part: make and append.
No conditions.
-/
import Derived.Test.YtgfpcjomgmdapaaVcMemT
namespace Go.Vc
variable {P : Program} {T : TT} {E : Entry} {w : World} {ρ : Nat → Nat} {A : FA} {S : FS} {tm : Nat} {a : Act} {o : Oper} {EV : Operand → AV} {n : Nat} {K : Eff → Prop} {Q : Exit → Act → World → Prop}

theorem run_makeSlice {t e : TypeId} (hu : P.underlying t = some (.slice e)) {inf : TypeInfo} (hi : P.info? e = some inf) {z : Value} (hz : inf.zero = some z) {k k' : IntKind} {nl nc : Int} (h0 : 0 ≤ nl) (h1 : nl ≤ nc) (h2 : inf.bytes * nc ≤ 281474976710656)
    (h3 : nc ≤ 9223372036854775807) (w : World) :
    (Instr.makeSlice t (.int k nl) (.int k' nc)).run P w = .ok (.slice (some ⟨w.heap.size, 0, none⟩) nl.toNat nc.toNat) (w.alloc (.cells ((Array.range (nc.toNat * inf.size)).map fun i => z.cells[i % z.cells.size]!) e)) := by
  have hw1 : IntKind.i64.wrap nl = nl := rng_wrap (k := .i64) ⟨by omega, by omega⟩
  have hw2 : IntKind.i64.wrap nc = nc := rng_wrap (k := .i64) ⟨by omega, by omega⟩
  have hc : (decide (nc < 0) || decide ((inf.bytes : Int) * nc > 2 ^ 48) || decide (nl < 0) || decide (nl > nc)) = false := by
    have a1 : ¬ nc < 0 := by omega
    have a3 : ¬ nl < 0 := by omega
    have a4 : ¬ nl > nc := by omega
    simp [a1, a3, a4]
    exact h2
  simp only [Instr.makeSlice, Sem.run_bind, run_underlying hu, Result.andThen_ok, asInt, asIntOf, Sem.run_pure, typeInfo, run_program, hi, hw1, hw2, sizeOf]
  rw [if_neg (by rw [hc]; simp)]
  simp only [Sem.run_bind, run_askRoom, run_program, Result.andThen_ok, hi, Sem.run_pure]
  by_cases hn : nc.toNat * inf.size = 0
  · have hA : ∀ f : Nat → Value, (Array.range (nc.toNat * inf.size)).map f = (Array.range (nc.toNat * inf.size)).map fun i => z.cells[i % z.cells.size]! := by
      intro f; rw [hn]; apply Array.ext'; simp
    rw [if_pos hn]
    simp only [Sem.run_bind, Sem.run_pure, Result.andThen_ok, hA, newRow, run_newObj]
    rfl
  · rw [if_neg hn]
    simp only [zeroValue, typeInfo, Sem.run_bind, run_program, Result.andThen_ok, hi, Sem.run_pure, hz, newRow, run_newObj]
    rfl

theorem makeSlice_sound (h : Sat E S tm a w ρ A) (hn0 : E.n0 ≤ n) (hn : S.H n = .dead) (hT : TOk P T) (hev : ∀ x, RepV (ctxOf E S.H w ρ A) (EV x) (a.eval x)) {t : TypeId} {l c : Operand} (hop : o.op = .makeSlice t l c)
    (hm : match T t, EV l, EV c with
    | some ti, .val (.int _ nl), .val (.int _ nc) => ti.kind = 1 ∧ match T ti.elem with
      | some te => 0 ≤ nl ∧ nl ≤ nc ∧ te.bytes * nc ≤ 281474976710656 ∧ nc ≤ 9223372036854775807 ∧
          (if isInt te then te.zero = [.int .i64 0] ∧ K { val := .own n, new := [.iarr (List.replicate nl.toNat 0)] }
           else K { val := .own n, new := [.arr te.size (List.replicate nl.toNat (te.zero.map AV.val))] })
      | none => False
    | _, _, _ => False) : o.wp P a w (Fin E S tm n o.dst ρ w K) Q := by
  have hl := hev l
  have hc := hev c
  split at hm
  case h_2 => exact hm.elim
  case h_1 ti kl nl kc nc ht hEl hEc =>
    rw [hEl] at hl
    rw [hEc] at hc
    generalize hvl : a.eval l = vl at hl
    generalize hvc : a.eval c = vc at hc
    cases hl
    cases hc
    obtain ⟨hk, hm⟩ := hm
    split at hm
    case h_2 => exact hm.elim
    case h_1 te hte =>
      obtain ⟨h0, h1, h2, h3, hm⟩ := hm
      have hu := (hT t ti ht).slice hk
      have tye := hT _ te hte
      obtain ⟨inf, z, hi, hsz, hby, hz, hzc⟩ := tye.info
      have hzs : z.cells.size = te.size := by rw [← tye.zlen, ← hzc]; simp
      have hpos := tye.pos
      have hcs := range_mod hzs hpos nc.toNat
      rw [hzc] at hcs
      let out := (Array.range (nc.toNat * te.size)).map fun i => z.cells[i % z.cells.size]!
      have hout : out.toList = (List.replicate nc.toNat te.zero).flatten := hcs
      have houtsz : out.size = nc.toNat * te.size := by simp [out]
      have h1c : ∀ v ∈ out.toList, v.oneCell' = true := by
        rw [hout]
        intro v hv
        obtain ⟨e, he, hve⟩ := List.mem_flatten.1 hv
        rw [List.eq_of_mem_replicate he] at hve
        exact tye.one v hve
      have hle : nl.toNat ≤ nc.toNat := by omega
      have hmul : nl.toNat * te.size ≤ nc.toNat * te.size := Nat.mul_le_mul_right _ hle
      have htake : out.toList.take (nl.toNat * te.size) = (List.replicate nl.toNat te.zero).flatten := by
        rw [hout]
        have e : nc.toNat = nl.toNat + (nc.toNat - nl.toNat) := by omega
        rw [e, ← List.replicate_append_replicate, List.flatten_append, List.take_append_of_le_length, List.take_of_length_le]
        · rw [flat_length (sz := te.size) fun x hx => by rw [List.eq_of_mem_replicate hx]; exact tye.zlen]; simp
        · rw [flat_length (sz := te.size) fun x hx => by rw [List.eq_of_mem_replicate hx]; exact tye.zlen]; simp
      have hobj : ∀ c : Ctx, c.w.heap[c.ρ n]? = some (.cells out ti.elem (0, 0)) → RepO c n (.arr te.size (List.replicate nl.toNat (te.zero.map AV.val))) := by
        intro c hb
        rw [repO_flat hpos]
        refine ⟨out, ti.elem, hb, fun e he => by rw [List.eq_of_mem_replicate he]; simpa using tye.zlen, h1c, by simp; omega, ?_, fun x hx => ?_⟩
        · rw [List.length_replicate, htake, flat_map_val]
          refine vals_rep fun v hv => ?_
          obtain ⟨e, he, hve⟩ := List.mem_flatten.1 hv
          rw [List.eq_of_mem_replicate he] at hve
          exact tye.one v hve
        · rw [flat_map_val] at hx
          obtain ⟨y, _, rfl⟩ := List.mem_map.1 hx
          rfl
      have hrun : (execOp a.eval o).run P w = .ok (.value (.slice (some ⟨w.heap.size, 0, none⟩) nl.toNat nc.toNat)) (w.alloc (.cells out ti.elem)) := by
        have := run_makeSlice (P := P) (t := t) hu hi hz (k := kl) (k' := kc) h0 h1 (by rw [hby]; exact h2) h3 w
        rw [hsz] at this
        simp [execOp, hop, hvl, hvc, this, out]
      have hroom : nc.toNat * te.size ≤ out.size := by omega
      split at hm
      · rename_i hint
        obtain ⟨hz0, hK⟩ := hm
        have hs1 : te.size = 1 := by simp only [isInt, Bool.and_eq_true, beq_iff_eq] at hint; exact hint.2
        have hs := h.alloc (n := n) hn0 hn (o := .iarr (List.replicate nl.toNat 0)) (vs := out) (ty := ti.elem) (fun c _ hb => by
          rw [repO_iarr]
          have := hobj c hb
          rw [hs1, hz0] at this
          have e : icells (List.replicate nl.toNat 0) = List.replicate nl.toNat (List.map AV.val [Value.int .i64 0]) := by simp [icells]
          rw [e]; exact this)
        refine fin_value (e := { val := .own n, new := [.iarr (List.replicate nl.toNat 0)] }) hrun hK hs ?_ (fr_alloc hn)
        exact own_rep (sz := 1) (by simp [extH, setH, AO.info]) ⟨hle, by omega⟩ (room_alloc (by rw [hs1] at hroom; exact hroom)) (by simp [setρ])
      · have hs := h.alloc (n := n) hn0 hn (o := .arr te.size (List.replicate nl.toNat (te.zero.map AV.val))) (vs := out) (ty := ti.elem) (fun c _ hb => hobj c hb)
        refine fin_value (e := { val := .own n, new := [.arr te.size (List.replicate nl.toNat (te.zero.map AV.val))] }) hrun hm hs ?_ (fr_alloc hn)
        exact own_rep (sz := te.size) (by simp [extH, setH, AO.info]) ⟨hle, by omega⟩ (room_alloc hroom) (by simp [setρ])

/-- Object k grows: in its block, or in a new one. -/
theorem append_sound (h : Sat E S tm a w ρ A) (hT : TOk P T) {t t2 : TypeId} {ti ti2 te : TI} (ht : T t = some ti) (hk : ti.kind = 1) (ht2 : T t2 = some ti2) (hk2 : ti2.kind = 1) (hte : T ti.elem = some te)
    {s x : Operand} (hop : o.op = .call { callee := .builtin .append, args := #[s, x], argTypes := #[t, t2] })
    {k hi cap : Nat} (hsv : a.eval s = .slice (some ⟨ρ k, 0, none⟩) hi cap) (hhc : cap ≤ 9223372036854775807) (hroom : (ctxOf E S.H w ρ A).room k (cap * te.size))
    {l es : List (List AV)} (ho : RepO (ctxOf E S.H w ρ A) k (.arr te.size l)) (hinf : (S.H k).info = some (te.size, l.length)) (hhl : hi ≤ l.length) {news : List Value} (hsrc : Src (ctxOf E S.H w ρ A) te.size es (a.eval x) news)
    (hb : (hi + es.length) * te.bytes ≤ 140737488355328) (h63 : hi + es.length ≤ 9223372036854775807) {ob : AO} (hob : ∀ c : Ctx, RepO c k (.arr te.size (l.take hi ++ es)) → RepO c k ob) (hoinf : ob.info = some (te.size, hi + es.length))
    (hK : K { val := .own k, kill := some k, upd := [(k, ob)] }) (hKf : ∀ e, K e → E.fx = true → ∀ k, e.kill = some k → E.n0 ≤ k) : o.wp P a w (Fin E S tm n o.dst ρ w K) Q := by
  have hkn := fun hfx => hKf _ hK hfx k rfl
  have ty := hT t ti ht
  have hu := ty.slice hk
  have hu2 := (hT t2 ti2 ht2).slice hk2
  have tye := hT _ te hte
  obtain ⟨inf, z, hi', hsz, hby, hz, hzc⟩ := tye.info
  have hzs : z.cells.size = te.size := by rw [← tye.zlen, ← hzc]; simp
  have hpos := tye.pos
  obtain ⟨vs, bt, hb0, h5, h3, h2, h4, h6⟩ := (repO_flat hpos).1 ho
  have hb0 : w.heap[ρ k]? = some (.cells vs bt (0, 0)) := hb0
  have hal : alive S.H k := by intro e; rw [e] at hinf; simp [AO.info] at hinf
  have hcapv : cap * te.size ≤ vs.size := by
    obtain ⟨vs', T', fr', h1, h2⟩ := hroom
    have h1 : w.heap[ρ k]? = some (.cells vs' T' fr') := h1
    rw [hb0] at h1
    cases h1
    exact h2
  have hhis : hi * te.size ≤ l.length * te.size := Nat.mul_le_mul_right _ hhl
  have hol : ob ≠ .dead := by intro e; rw [e] at hoinf; simp [AO.info] at hoinf
  have hel : ∀ e ∈ l.take hi ++ es, e.length = te.size := by
    intro e he
    rcases List.mem_append.1 he with he | he
    · exact h5 e (List.mem_of_mem_take he)
    · exact hsrc.el e he
  have hlen2 : (l.take hi ++ es).length = hi + es.length := by simp; omega
  have hflt : (l.take hi).flatten = l.flatten.take (hi * te.size) := by
    have h5' : ∀ e ∈ l.take hi, e.length = te.size := fun e he => h5 e (List.mem_of_mem_take he)
    have hsplit : l.flatten = (l.take hi).flatten ++ (l.drop hi).flatten := by rw [← List.flatten_append, List.take_append_drop]
    have hlt : (l.take hi).flatten.length = hi * te.size := by rw [flat_length h5', List.length_take, Nat.min_eq_left hhl]
    rw [hsplit, List.take_append_of_le_length (by omega), List.take_of_length_le (l := (l.take hi).flatten) (by omega)]
  have hfl2 : (l.take hi ++ es).flatten = l.flatten.take (hi * te.size) ++ es.flatten := by rw [List.flatten_append, hflt]
  have hpure : ∀ y ∈ (l.take hi ++ es).flatten, pureB y = true := by
    rw [hfl2]
    intro y hy
    rcases List.mem_append.1 hy with hy | hy
    · exact h6 y (List.mem_of_mem_take hy)
    · exact hsrc.pure y hy
  have hrl : RepL (ctxOf E S.H w ρ A) (l.take hi ++ es).flatten (vs.toList.take (hi * te.size) ++ news) := by
    rw [hfl2]
    have := (h4.take (hi * te.size)).append hsrc.rep
    rw [List.take_take, Nat.min_eq_left hhis] at this
    exact this
  have hrll : (vs.toList.take (hi * te.size) ++ news).length = (hi + es.length) * te.size := by rw [hrl.1, flat_length hel, hlen2]
  have hlen := hsrc.len
  -- both ways end in a block of known cells; the references to k are killed
  have fin : ∀ {v : Value} {w' : World} {b cap' : Nat} {vs' : Array Value} {bt' : TypeId}, (execOp a.eval o).run P w = .ok (.value v) w' → v = .slice (some ⟨b, 0, none⟩) (hi + es.length) cap' → (hi + es.length ≤ cap' ∧ cap' ≤ 9223372036854775807) → cap' * te.size ≤ vs'.size →
      StepOk E S.H w ρ A k ob b w' (mapH (killF k) S.H k ob) → w'.heap[b]? = some (.cells vs' bt' (0, 0)) → (∀ u ∈ vs'.toList, u.oneCell' = true) → vs'.toList.take ((hi + es.length) * te.size) = vs.toList.take (hi * te.size) ++ news →
      o.wp P a w (Fin E S tm n o.dst ρ w K) Q := by
    intro v w' b cap' vs' bt' hrun hv hcap' hcapsz st hb' h1c htake
    have kp := st.keeps h.toSatW
    have hne : ∀ r, refOf r ≠ some k → killF k r = r := fun r hr => by simp [killF, hr]
    have hgt : setρ ρ k b k = b := by simp [setρ]
    have hobj : RepO (ctxOf E (mapH (killF k) S.H k ob) w' (setρ ρ k b) A) k ob := by
      refine hob _ ((repO_flat hpos).2 ⟨vs', bt', by show w'.heap[setρ ρ k b k]? = _; rw [hgt]; exact hb', hel, h1c, ?_, ?_, hpure⟩)
      · rw [hlen2]
        exact Nat.le_trans (Nat.mul_le_mul_right _ hcap'.1) hcapsz
      · rw [hlen2, htake]
        exact hrl.mono fun y u hy hr => hr.pure_move kp (pureA_of_pureB (hpure y hy))
    have hs := h.stepMap (killF k) st hne hobj fun r u hr _ => by simp only [killF, hr, if_true]; exact .any u
    refine fin_value (e := { val := .own k, kill := some k, upd := [(k, ob)] }) hrun hK hs ?_ (Fr.of_step st fun _ => .inr rfl)
    rw [hv]
    refine own_rep (sz := te.size) ?_ hcap' ⟨vs', bt', (0, 0), ?_, hcapsz⟩ hgt
    · simpa [extH, updH, killH, setH] using hoinf
    · show w'.heap[setρ ρ k b k]? = _
      rw [hgt]; exact hb'
  have hal' : ∀ i, i ≠ k → (alive (mapH (killF k) S.H k ob) i ↔ alive S.H i) := fun i hi => by simp [alive, mapH, hi, mapO_dead]
  have hexec : ∀ {v w'}, (Builtin.append_ #[t, t2] o.type #[a.eval s, a.eval x]).run P w = .ok v w' → (execOp a.eval o).run P w = .ok (.value v) w' := by
    intro v w' hr
    simp [execOp, hop, resolve, invoke, builtin, hr]
  by_cases hfit : hi + es.length ≤ cap
  · have hnl : hi * te.size + news.length ≤ vs.size := by
      rw [hsrc.nl, ← Nat.add_mul]; exact Nat.le_trans (Nat.mul_le_mul_right _ hfit) hcapv
    have hr := run_append_fits (P := P) (ty := o.type) (t2 := t2) hu hu2 (by simp) hi' hb0 hlen (by rw [hsz]; exact hsrc.nl) (by rw [hsz]; exact hsrc.run P w rfl) hsrc.rep.2.1 hfit (by rw [hsz]; exact hnl)
    rw [← hsv] at hr
    rw [hsz] at hr
    let vs' := (vs.toList.take (hi * te.size) ++ news ++ vs.toList.drop (hi * te.size + news.length)).toArray
    have hvsz : vs'.size = vs.size := by simp [vs']; omega
    refine fin (b := ρ k) (vs' := vs') (bt' := bt) (hexec hr) rfl ⟨hfit, hhc⟩ (by rw [hvsz]; exact hcapv) ?_ (setRow_heap w _ vs _ bt (0, 0) hb0) ?_ ?_
    · exact ⟨rfl, rfl, rfl, by simp, fun b' _ hne => setRow_other w _ _ _ (hne hal), fun _ => ⟨by simpa using (h.place k hal).1, .inl ⟨hal, rfl⟩⟩, hal', by simp [mapH], fun cs e => by rw [e] at hoinf; simp [AO.info] at hoinf, fun hfx hlt => absurd (hkn hfx) (by omega), fun hfx hlt => absurd (hkn hfx) (by omega)⟩
    · intro u hu
      simp only [vs', List.mem_append] at hu
      rcases hu with (hu | hu) | hu
      · exact h3 u (List.mem_of_mem_take hu)
      · exact hsrc.rep.2.1 u hu
      · exact h3 u (List.mem_of_mem_drop hu)
    · simp only [vs']
      rw [List.take_append_of_le_length (by rw [hrll]; exact Nat.le_refl _), List.take_of_length_le (by rw [hrll]; exact Nat.le_refl _)]
  · have hfo : (Builtin.firstCells inf.size hi (.slice (some ⟨ρ k, 0, none⟩) hi cap)).run P w.drew = .ok (vs.toList.take (hi * te.size)).toArray w.drew := by
      refine run_firstCells_some w.drew inf.size hi _ _ _ _ (by rw [hsz]; simp; omega) fun j v hj => ?_
      rw [add_none, Nat.zero_add, World.cell?_drew, cell_of_row w _ _ vs bt (0, 0) hb0]
      rw [List.getElem?_take] at hj
      split at hj
      · simpa using hj
      · cases hj
    have hr := run_append_new (P := P) (ty := o.type) (t2 := t2) hu hu2 (by simp) hi' hz hfo hlen (by rw [hsz]; exact hsrc.run P w.drew rfl) (by omega) (by rw [hby]; exact hb) h63
    rw [← hsv] at hr
    have hge := grownCap_ge w (hi + es.length) cap ti.elem
    let vs' := (vs.toList.take (hi * te.size)).toArray ++ news.toArray ++ Builtin.zeroCells z.cells (grownCap w (hi + es.length) cap ti.elem - (hi + es.length))
    have hvsz : vs'.size = grownCap w (hi + es.length) cap ti.elem * te.size := by
      have h1 : vs'.size = (vs.toList.take (hi * te.size) ++ news).length + (grownCap w (hi + es.length) cap ti.elem - (hi + es.length)) * te.size := by
        simp [vs', size_zeroCells, hzs, Nat.add_assoc]
      rw [h1, hrll, ← Nat.add_mul]
      congr 1
      omega
    refine fin (b := w.heap.size) (vs' := vs') (bt' := ti.elem) (hexec hr) rfl ⟨hge, grownCap_le_maxLen _ _ _ _ (by unfold maxLen; omega)⟩ (by rw [hvsz]; exact Nat.le_refl _) ?_ (heap_alloc_new w.drew _) ?_ ?_
    · exact ⟨rfl, rfl, rfl, by simp, fun b' hb' _ => heap_alloc_old w.drew _ hb', fun _ => ⟨by simp, .inr (Nat.le_refl _)⟩, hal', by simp [mapH], fun cs e => by rw [e] at hoinf; simp [AO.info] at hoinf, fun hfx hlt => absurd (hkn hfx) (by omega), fun hfx hlt => absurd (hkn hfx) (by omega)⟩
    · intro u hu
      simp only [vs', Array.toList_append, List.mem_append] at hu
      rcases hu with (hu | hu) | hu
      · exact h3 u (List.mem_of_mem_take hu)
      · exact hsrc.rep.2.1 u hu
      · simp only [Builtin.zeroCells, Array.toList_map, List.mem_map] at hu
        obtain ⟨i, _, rfl⟩ := hu
        have hmo : i % z.cells.size < z.cells.size := Nat.mod_lt _ (by rw [hzs]; exact hpos)
        rw [getElem!_pos z.cells _ hmo]
        exact tye.one _ (by rw [← hzc]; simp)
    · simp only [vs', Array.toList_append]
      rw [List.take_append_of_le_length (by rw [hrll]; exact Nat.le_refl _), List.take_of_length_le (by rw [hrll]; exact Nat.le_refl _)]

theorem litInts_map : ∀ {cs : List AV} {l : List Int}, litInts cs = some l → cs = l.map I ∧ (l.map I).all pureB = true
  | [], l, h => by cases h; exact ⟨rfl, rfl⟩
  | x :: r, l, h => by
    unfold litInts at h
    split at h
    case h_1 heq => cases heq
    case h_2 n r' heq =>
      cases heq
      split at h
      case h_1 l' hl' =>
        cases h
        obtain ⟨h1, h2⟩ := litInts_map hl'
        exact ⟨by rw [h1]; rfl, by simp [pureB]⟩
      case h_2 => cases h
    case h_3 => cases h
theorem intsSrc_srcA {H : Nat → AO} {x : AV} {l : List Int} (h : intsSrc H x = some l) : srcA H x 1 = some (icells l) := by
  unfold intsSrc at h
  unfold srcA
  split at h
  case h_1 l' => cases h; simp
  case h_2 k =>
    split at h
    case h_1 l' hl => cases h; simp [hl]
    case h_2 => cases h
  case h_3 k p q =>
    split at h
    case h_1 l' hl => cases h; simp [hl]
    case h_2 => cases h
  case h_4 k off n =>
    split at h
    case h_2 => cases h
    case h_1 cs hcs =>
      split at h
      case isFalse => cases h
      case isTrue hle =>
        obtain ⟨e1, e2⟩ := litInts_map h
        simp only [hcs]
        rw [if_pos ⟨trivial, hle, by rw [e1]; exact e2⟩, e1]
        simp [icells]
  case h_5 => cases h; simp [icells]
  case h_6 => cases h

/-- The append onto nil. -/
theorem append_nil_sound (h : Sat E S tm a w ρ A) (hn0 : E.n0 ≤ n) (hn : S.H n = .dead) (hT : TOk P T) {t t2 : TypeId} {ti ti2 te : TI} (ht : T t = some ti) (hk : ti.kind = 1) (ht2 : T t2 = some ti2) (hk2 : ti2.kind = 1) (hte : T ti.elem = some te)
    {s x : Operand} (hop : o.op = .call { callee := .builtin .append, args := #[s, x], argTypes := #[t, t2] }) (hsv : a.eval s = .slice none 0 0)
    {es : List (List AV)} {news : List Value} (hsrc : Src (ctxOf E S.H w ρ A) te.size es (a.eval x) news) (hb : es.length * te.bytes ≤ 140737488355328) (h63 : es.length ≤ 9223372036854775807)
    {ob : AO} (hob : ∀ c : Ctx, RepO c n (.arr te.size es) → RepO c n ob) (hoinf : ob.info = some (te.size, es.length))
    (hK0 : es = [] → K { val := .val (.slice none 0 0) }) (hK1 : es ≠ [] → K { val := .own n, new := [ob] }) : o.wp P a w (Fin E S tm n o.dst ρ w K) Q := by
  have ty := hT t ti ht
  have hu := ty.slice hk
  have hu2 := (hT t2 ti2 ht2).slice hk2
  have tye := hT _ te hte
  obtain ⟨inf, z, hi', hsz, hby, hz, hzc⟩ := tye.info
  have hzs : z.cells.size = te.size := by rw [← tye.zlen, ← hzc]; simp
  have hpos := tye.pos
  have hlen := hsrc.len
  have hexec : ∀ {v w'}, (Builtin.append_ #[t, t2] o.type #[a.eval s, a.eval x]).run P w = .ok v w' → (execOp a.eval o).run P w = .ok (.value v) w' := by
    intro v w' hr
    simp [execOp, hop, resolve, invoke, builtin, hr]
  by_cases he : es = []
  · subst he
    obtain ⟨b, cap, hx⟩ := hlen
    have hr : (Builtin.append_ #[t, t2] o.type #[a.eval s, a.eval x]).run P w = .ok (.slice none 0 0) w := by
      have hf := hsrc.run P w rfl
      rw [hx] at hf ⊢
      rw [hsv]
      simp only [List.length_nil] at hf ⊢
      simp [Builtin.append_, run_underlying hu, run_underlying hu2, sizeOf, typeInfo, hi', Builtin.lenOf]
      rw [hsz, hf]
      rfl
    exact fin_value (e := { val := .val (.slice none 0 0) }) (hexec hr) (hK0 rfl) h (.val _) .refl
  · have hpos' : 0 < es.length := List.length_pos_iff.2 he
    have hfo : (Builtin.firstCells inf.size 0 (.slice none 0 0)).run P w.drew = .ok ([] : List Value).toArray w.drew := by simp [Builtin.firstCells]
    have hr := run_append_new (P := P) (ty := o.type) (t2 := t2) hu hu2 (by simp) hi' hz hfo hlen (by rw [hsz]; exact hsrc.run P w.drew rfl) (by omega) (by rw [hby, Nat.zero_add]; exact hb) (by omega)
    rw [← hsv, Nat.zero_add] at hr
    have hge := grownCap_ge w es.length 0 ti.elem
    let vs' := ([] : List Value).toArray ++ news.toArray ++ Builtin.zeroCells z.cells (grownCap w es.length 0 ti.elem - es.length)
    have hvsz : vs'.size = grownCap w es.length 0 ti.elem * te.size := by
      have h1 : vs'.size = news.length + (grownCap w es.length 0 ti.elem - es.length) * te.size := by simp [vs', size_zeroCells, hzs]
      rw [h1, hsrc.nl, ← Nat.add_mul]
      congr 1
      omega
    have kp : Keeps (ctxOf E S.H w ρ A) (ctxOf E S.H w.drew ρ A) := ⟨fun _ h => h, fun _ _ => rfl, fun _ h => h, fun _ _ => rfl, Nat.le_refl _, fun _ _ => rfl⟩
    have hs := h.drew.alloc (n := n) hn0 hn (o := ob) (vs := vs') (ty := ti.elem) (fun c hmv hb' => by
      refine hob c ((repO_flat hpos).2 ⟨vs', ti.elem, hb', hsrc.el, fun u hu => ?_, by rw [hvsz]; exact Nat.mul_le_mul_right _ hge, ?_, hsrc.pure⟩)
      · simp only [vs', Array.toList_append, List.mem_append] at hu
        rcases hu with (hu | hu) | hu
        · simp at hu
        · exact hsrc.rep.2.1 u hu
        · simp only [Builtin.zeroCells, Array.toList_map, List.mem_map] at hu
          obtain ⟨i, _, rfl⟩ := hu
          have hmo : i % z.cells.size < z.cells.size := Nat.mod_lt _ (by rw [hzs]; exact hpos)
          rw [getElem!_pos z.cells _ hmo]
          exact tye.one _ (by rw [← hzc]; simp)
      · have e : vs'.toList.take (es.length * te.size) = news := by
          simp only [vs', Array.toList_append, List.nil_append]
          rw [List.take_append_of_le_length (by rw [← hsrc.nl]; exact Nat.le_refl _), List.take_of_length_le (by rw [← hsrc.nl]; exact Nat.le_refl _)]
        rw [e]
        exact hsrc.rep.mono fun y u hy hr => hmv y u (hr.pure_move kp (pureA_of_pureB (hsrc.pure y hy))))
    refine fin_value (e := { val := .own n, new := [ob] }) (hexec hr) (hK1 he) hs ?_ (.of_drew (fr_alloc (w := w.drew) hn))
    exact own_rep (sz := te.size) (by simpa [extH, setH, updH, killH] using hoinf) ⟨hge, grownCap_le_maxLen _ _ _ _ (by unfold maxLen; omega)⟩ (room_alloc (w := w.drew) (by rw [hvsz]; exact Nat.le_refl _)) (by simp [setρ])

theorem appendTo_sound (h : Sat E S tm a w ρ A) (hT : TOk P T) {t t2 : TypeId} {ti ti2 te : TI} (ht : T t = some ti) (hk : ti.kind = 1) (ht2 : T t2 = some ti2) (hk2 : ti2.kind = 1) (hte : T ti.elem = some te)
    {s x : Operand} (hop : o.op = .call { callee := .builtin .append, args := #[s, x], argTypes := #[t, t2] }) {ex : AV} (hx : RepV (ctxOf E S.H w ρ A) ex (a.eval x))
    {k hi cap sz m : Nat} (hsv : a.eval s = .slice (some ⟨ρ k, 0, none⟩) hi cap) (hhc : cap ≤ 9223372036854775807) (hinf : (S.H k).info = some (sz, m)) (hroom : (ctxOf E S.H w ρ A).room k (cap * sz)) (hm : appendTo te S.H ex k hi K) (hKf : ∀ e, K e → E.fx = true → ∀ k, e.kill = some k → E.n0 ≤ k) : o.wp P a w (Fin E S tm n o.dst ρ w K) Q := by
  have hpos := (hT _ te hte).pos
  have ho := h.obj k
  unfold appendTo at hm
  split at hm
  case h_3 => exact hm.elim
  case h_1 l hl =>
    obtain ⟨hs1, hm⟩ := hm
    rw [hl] at hinf ho
    simp only [AO.info, Option.some.injEq, Prod.mk.injEq] at hinf
    obtain ⟨rfl, rfl⟩ := hinf
    split at hm
    case h_2 => exact hm.elim
    case h_1 l2 hl2 =>
      obtain ⟨hhl, hb, h63, hK⟩ := hm
      obtain ⟨news, hsrc⟩ := srcA_sound h.toSatW (by omega) (intsSrc_srcA hl2) hx
      rw [repO_iarr] at ho
      refine append_sound (ob := .iarr (l.take hi ++ l2)) (l := icells l) (es := icells l2) h hT ht hk ht2 hk2 hte hop hsv hhc (by rw [hs1]; exact hroom) (by rw [hs1]; exact ho) (by rw [hl, hs1, icells_length]; rfl) (by rw [icells_length]; exact hhl) (by rw [hs1]; exact hsrc)
        (by rw [icells_length]; exact hb) (by rw [icells_length]; exact h63) (fun c hc => ?_) (by rw [icells_length]; simp [AO.info, hs1]; omega) hK hKf
      rw [repO_iarr]
      have e : icells (l.take hi ++ l2) = (icells l).take hi ++ icells l2 := by simp [icells, List.map_take]
      rw [e, ← hs1]
      exact hc
  case h_2 s' l hl =>
    obtain ⟨hs1, hm⟩ := hm
    subst hs1
    rw [hl] at hinf ho
    simp only [AO.info, Option.some.injEq, Prod.mk.injEq] at hinf
    obtain ⟨rfl, rfl⟩ := hinf
    split at hm
    case h_2 => exact hm.elim
    case h_1 es hes =>
      obtain ⟨hhl, hb, h63, hK⟩ := hm
      obtain ⟨news, hsrc⟩ := srcA_sound h.toSatW hpos hes hx
      exact append_sound (ob := .arr te.size (l.take hi ++ es)) (l := l) (es := es) h hT ht hk ht2 hk2 hte hop hsv hhc hroom ho (by rw [hl]; rfl) hhl hsrc hb h63 (fun c hc => hc) (by simp [AO.info]; omega) hK hKf

theorem appendA_sound (h : Sat E S tm a w ρ A) (hn0 : E.n0 ≤ n) (hn : S.H n = .dead) (hT : TOk P T) (hev : ∀ x, RepV (ctxOf E S.H w ρ A) (EV x) (a.eval x)) {t t2 : TypeId} {s x : Operand}
    (hop : o.op = .call { callee := .builtin .append, args := #[s, x], argTypes := #[t, t2] }) (hm : appendA T S.H n t t2 (EV s) (EV x) K) (hKf : ∀ e, K e → E.fx = true → ∀ k, e.kill = some k → E.n0 ≤ k) : o.wp P a w (Fin E S tm n o.dst ρ w K) Q := by
  have hx := hev x
  have hs := hev s
  unfold appendA at hm
  split at hm
  case h_2 => exact hm.elim
  case h_1 ti ti2 ht ht2 =>
    obtain ⟨hk, hk2, hm⟩ := hm
    split at hm
    case h_2 => exact hm.elim
    case h_1 te hte =>
      have hpos := (hT _ te hte).pos
      generalize hes : EV s = es at hm hs
      generalize hvs : a.eval s = vs at hs
      split at hm
      case h_4 => exact hm.elim
      case h_1 k =>
        cases hs with
        | own _ sz m cap hinf hcap hr =>
          have hinf' : (S.H k).info = some (sz, m) := hinf
          split at hm
          case h_3 => exact hm.elim
          case h_1 l hl =>
            have hi2 := hinf'
            rw [hl] at hi2
            simp only [AO.info, Option.some.injEq, Prod.mk.injEq] at hi2
            rw [hi2.2] at hm
            exact appendTo_sound h hT ht hk ht2 hk2 hte hop hx hvs hcap.2 hinf' hr hm hKf
          case h_2 s' l hl =>
            have hi2 := hinf'
            rw [hl] at hi2
            simp only [AO.info, Option.some.injEq, Prod.mk.injEq] at hi2
            rw [hi2.2] at hm
            exact appendTo_sound h hT ht hk ht2 hk2 hte hop hx hvs hcap.2 hinf' hr hm hKf
      case h_2 k hi =>
        cases hs with
        | sub _ sz m _ _ o' cap hinf h1 h2 hcap hr ho =>
          have ho' : o' = 0 := by
            rcases ho with ho | ho
            · simpa using ho
            · omega
          subst ho'
          rw [Nat.zero_add] at hr
          exact appendTo_sound h hT ht hk ht2 hk2 hte hop hx hvs hcap.2 hinf hr hm hKf
      case h_3 =>
        cases hs
        split at hm
        · rename_i hint
          have hs1 : te.size = 1 := by simp only [isInt, Bool.and_eq_true, beq_iff_eq] at hint; exact hint.2
          split at hm
          case h_2 => exact hm.elim
          case h_1 l hl =>
            obtain ⟨hb, h63, hK0, hK1⟩ := hm
            obtain ⟨news, hsrc⟩ := srcA_sound h.toSatW (by omega) (intsSrc_srcA hl) hx
            rw [← hs1] at hsrc
            exact append_nil_sound (es := icells l) (ob := .iarr l) h hn0 hn hT ht hk ht2 hk2 hte hop hvs hsrc (by rw [icells_length]; exact hb) (by rw [icells_length]; exact h63)
              (fun c hc => by rw [repO_iarr]; rw [hs1] at hc; exact hc) (by simp [AO.info, icells_length, hs1]) (fun e => hK0 (by simpa [icells] using e)) (fun e => hK1 (by simpa [icells] using e))
        · split at hm
          case h_2 => exact hm.elim
          case h_1 es' hes' =>
            obtain ⟨hb, h63, hK0, hK1⟩ := hm
            obtain ⟨news, hsrc⟩ := srcA_sound h.toSatW hpos hes' hx
            exact append_nil_sound (es := es') (ob := .arr te.size es') h hn0 hn hT ht hk ht2 hk2 hte hop hvs hsrc hb h63 (fun c hc => hc) rfl hK0 hK1

theorem run_copy {t t2 e : TypeId} (hu : P.underlying t = some (.slice e)) {te : TI} (hT : TOk P T) (hte : T e = some te) {w : World} {g off n cap m : Nat} {cur : Array Value} {bt : TypeId} (hg : w.heap[g]? = some (.cells cur bt (0, 0))) {u : Value} {news : List Value} (hu2 : ∃ a cap, u = .slice a m cap)
    (hm : m ≤ n) (hf : (Builtin.firstCells te.size m u).run P w = .ok news.toArray w) (h1 : ∀ u ∈ news, u.oneCell' = true) (hfit : off + news.length ≤ cur.size) (ty : TypeId) :
    (Builtin.copy_ #[t, t2] ty #[.slice (some ⟨g, off, none⟩) n cap, u]).run P w = .ok (.int .i64 m) (w.setRow g (cur.toList.take off ++ news ++ cur.toList.drop (off + news.length)).toArray) := by
  obtain ⟨a, cap', rfl⟩ := hu2
  have hst := run_storeCells_at P g off bt news 0 cur w hg (by simpa using hfit) h1
  simp only [Nat.add_zero] at hst
  have hse := size_of hT hte w
  have hmn : Nat.min m n = m := Nat.min_eq_left hm
  simp [Builtin.copy_, run_underlying hu, Builtin.lenOf, hse, hmn, hf, hst, goInt]

theorem copyA_sound (h : Sat E S tm a w ρ A) (hT : TOk P T) (hev : ∀ x, RepV (ctxOf E S.H w ρ A) (EV x) (a.eval x)) {t t2 : TypeId} {s x : Operand}
    (hop : o.op = .call { callee := .builtin .copy, args := #[s, x], argTypes := #[t, t2] }) (hm : copyA T S.H t (EV s) (EV x) K) : o.wp P a w (Fin E S tm n o.dst ρ w K) Q := by
  have hx := hev x
  have hs := hev s
  unfold copyA at hm
  split at hm
  case h_2 => exact hm.elim
  case h_1 ti ht =>
    obtain ⟨hk, hm⟩ := hm
    split at hm
    case h_2 => exact hm.elim
    case h_1 te hte =>
      obtain ⟨hs1, hm⟩ := hm
      generalize hes : EV s = es at hm hs
      generalize hvs : a.eval s = vs at hs
      split at hm
      case h_2 => exact hm.elim
      case h_1 k off m =>
        split at hm
        case h_2 => exact hm.elim
        case h_1 cs es' hcs hes' =>
          obtain ⟨hfit, hle, hK⟩ := hm
          cases hs with
          | win _ _ _ cap cs' hk' hcap hr =>
            have ho := h.obj k
            rw [hcs] at ho
            obtain ⟨cur, bt, hb, hrl⟩ := repO_cells.1 ho
            have hb : w.heap[ρ k]? = some (.cells cur bt (0, 0)) := hb
            have hcl : cur.size = cs.length := by have := hrl.1; simpa using this
            obtain ⟨news, hsrc⟩ := srcA_sound h.toSatW (by omega) hes' hx
            have hnl := hsrc.nl
            have hal : alive S.H k := by rw [alive, hcs]; simp
            have hfl : es'.flatten.length = news.length := hsrc.rep.1.symm
            have hrun := run_copy (P := P) (t2 := t2) ((hT t ti ht).slice hk) hT hte hb (n := m) (cap := cap) (off := off) hsrc.len hle (by rw [hs1]; exact hsrc.run P w rfl) hsrc.rep.2.1 (by omega) o.type
            have hs' := h.write (k := k) hal (o := .cells (splice cs off es'.flatten)) (by rw [hcs]; rfl) (fun cs' _ => ⟨_, rfl⟩) hb (vs' := (splice cur.toList off news).toArray) (by rw [splice_size (by omega)]; exact Nat.le_refl _)
              (fun c hmv hb' => repO_cells.2 ⟨_, _, hb', by
                have := (hrl.splice hsrc.rep off).mono (c' := c) fun a v _ => hmv a v
                simpa using this⟩)
            rw [setρ_self] at hs'
            refine fin_value (e := { val := I es'.length, upd := [(k, .cells (splice cs off es'.flatten))] }) (v := .int .i64 es'.length) (w' := w.setRow (ρ k) (splice cur.toList off news).toArray) ?_ hK hs' (.val _) (fr_write hal (.inl ⟨_, .head _⟩))
            simp only [splice, ← List.append_assoc]
            simp [execOp, hop, resolve, invoke, builtin, hvs, hrun]
end Go.Vc
