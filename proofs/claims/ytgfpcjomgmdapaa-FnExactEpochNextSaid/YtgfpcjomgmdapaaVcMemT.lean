/-
That the memory operations of the model do what the abstract ones say, second part: stores, rows, appends.
No conditions.
-/
import Derived.Test.YtgfpcjomgmdapaaVcMemS
namespace Go.Vc
variable {P : Program} {T : TT} {E : Entry} {w : World} {ρ : Nat → Nat} {A : FA} {S : FS} {tm : Nat} {a : Act} {o : Oper} {EV : Operand → AV} {n : Nat} {K : Eff → Prop} {Q : Exit → Act → World → Prop}

theorem store_sound (h : Sat E S tm a w ρ A) (hT : TOk P T) (hev : ∀ x, RepV (ctxOf E S.H w ρ A) (EV x) (a.eval x)) {t : TypeId} {p x : Operand} (hop : o.op = .store t p x)
    (hm : storeA T S.H t (EV p) (EV x) fun k ob => K { val := .val undef, upd := [(k, ob)] }) : o.wp P a w (Fin E S tm n o.dst ρ w K) Q := by
  unfold storeA at hm
  split at hm
  case h_2 => exact hm.elim
  case h_1 ti cs ht hcs =>
    obtain ⟨hlen, hm⟩ := hm
    have ty := hT t ti ht
    have hr := cellsOf_rep hcs (hev x)
    have hvl : (a.eval x).cells.size = ti.size := by have := hr.1; simp at this; omega
    have hrun : ∀ {g off : Nat} {cur : Array Value} {bt : TypeId}, w.heap[g]? = some (.cells cur bt (0, 0)) → off + (a.eval x).cells.size ≤ cur.size → a.eval p = .pointer (some ⟨g, off, none⟩) →
        (execOp a.eval o).run P w = .ok .skip (w.setRow g (splice cur.toList off (a.eval x).cells.toList).toArray) := by
      intro g off cur bt hg hfit hp
      have := run_storeVar (P := P) hT ht hg hvl hfit hr.2.1
      simp [execOp, hop, hp, Instr.storeAt, Instr.sureAddr, this]
    have hp := hev p
    generalize hEp : EV p = ep at hm hp
    split at hm
    case h_3 => exact hm.elim
    case h_1 k off =>
      generalize hpv : a.eval p = pv at hp
      cases hp with
      | ptr _ _ ds' hk =>
        have ho := h.obj k
        split at hm
        case h_2 => exact hm.elim
        case h_1 ds hds =>
          obtain ⟨hfit, hK⟩ := hm
          rw [hds] at ho
          obtain ⟨vs, bt, hb, hrl⟩ := repO_cells.1 ho
          have hb : w.heap[ρ k]? = some (.cells vs bt (0, 0)) := hb
          have hvs : vs.size = ds.length := by have := hrl.1; simpa using this
          have hal : alive S.H k := by rw [alive, hds]; simp
          have hs := h.write (k := k) hal (o := .cells (splice ds off cs)) (by rw [hds]; rfl) (fun cs' _ => ⟨_, rfl⟩) hb (vs' := (splice vs.toList off (a.eval x).cells.toList).toArray) (by rw [splice_size (by simp; omega)]; exact Nat.le_refl _)
            (fun c hmv hb' => repO_cells.2 ⟨_, _, hb', by
              have := (hrl.splice hr off).mono (c' := c) fun a v _ => hmv a v
              simpa using this⟩)
          rw [setρ_self] at hs
          exact fin_skip (hrun hb (by omega) hpv) hK hs (.val _) (fr_write hal (.inl ⟨_, .head _⟩))
    case h_2 k i off =>
      generalize hpv : a.eval p = pv at hp
      cases hp with
      | el _ _ _ sz m hk hi =>
        have hk : (S.H k).info = some (sz, m) := hk
        have ho := h.obj k
        have key : ∀ (l : List (List AV)) (ob : AO), 0 < sz → RepO (ctxOf E S.H w ρ A) k (.arr sz l) → (∀ (c : Ctx), RepO c k (.arr sz (l.set i (splice (l.getD i []) off cs))) → RepO c k ob) → l.length = m →
            ob.info = (S.H k).info → (∀ cs', S.H k ≠ .cells cs') → cs.all pureB = true → off + cs.length ≤ sz → K { val := .val undef, upd := [(k, ob)] } → o.wp P a w (Fin E S tm n o.dst ρ w K) Q := by
          intro l ob hsz ho' hob hlm hinf hnc hpure hfit hK
          obtain ⟨vs, bt, hb, h5, h3, h2, h4, h6⟩ := (repO_flat hsz).1 ho'
          have hb : w.heap[ρ k]? = some (.cells vs bt (0, 0)) := hb
          have hil : i < l.length := by omega
          have hm' : i * sz + sz ≤ l.length * sz := by
            have := Nat.mul_le_mul_right sz (show i + 1 ≤ l.length by omega)
            rw [Nat.add_mul, Nat.one_mul] at this; exact this
          have hg : l[i]? = some (l.getD i []) := by simp [List.getD, hil]
          have hal : alive S.H k := by intro e; rw [e] at hk; simp [AO.info] at hk
          have hs := h.write (k := k) hal (o := ob) hinf (fun cs' hcs' => absurd hcs' (hnc cs')) hb (vs' := (splice vs.toList (i * sz + off) (a.eval x).cells.toList).toArray) (by rw [splice_size (by simp; omega)]; exact Nat.le_refl _)
            (fun c hmv hb' => hob c (elem_write hsz ho' hb hg hfit hpure hr hmv hb'))
          rw [setρ_self] at hs
          exact fin_skip (hrun hb (by omega) hpv) hK hs (.val _) (fr_write hal (.inl ⟨_, .head _⟩))
        split at hm
        case h_3 => exact hm.elim
        case h_1 l hl =>
          obtain ⟨rfl, hm⟩ := hm
          obtain ⟨ns, hK, rfl⟩ := intsOf_sound hm
          rw [hl] at hk ho
          simp only [AO.info, Option.some.injEq, Prod.mk.injEq] at hk
          obtain ⟨rfl, rfl⟩ := hk
          split at hK
          case h_2 => exact hK.elim
          case h_1 y =>
            refine key (icells l) (.iarr (l.set i y)) (by omega) (repO_iarr.1 ho) (fun c hc => ?_) (icells_length l) (by rw [hl]; simp [AO.info]) (fun cs' e => by rw [hl] at e; cases e) rfl (by simp) hK
            rw [repO_iarr]
            have hgd : (icells l).getD i [] = [I (l[i]'hi)] := by simp [icells, List.getD, hi]
            rw [hgd] at hc
            have e2 : icells (l.set i y) = (icells l).set i (splice [I (l[i]'hi)] 0 (List.map I [y])) := by simp [icells, splice, List.map_set]
            rw [e2]
            exact hc
        case h_2 sz' l hl =>
          obtain ⟨hpure, hm⟩ := hm
          rw [hl] at hk ho
          simp only [AO.info, Option.some.injEq, Prod.mk.injEq] at hk
          obtain ⟨rfl, rfl⟩ := hk
          have hg : l[i]? = some (l.getD i []) := by simp [List.getD, hi]
          obtain ⟨hfit, hK⟩ := hm _ hg
          have hpos : 0 < sz' := by have := ty.pos; omega
          exact key l _ hpos ho (fun c hc => hc) rfl (by rw [hl]; simp [AO.info]) (fun cs' e => by rw [hl] at e; cases e) hpure hfit hK

theorem range_mod {z : Array Value} {sz : Nat} (hz : z.size = sz) (hsz : 0 < sz) (m : Nat) : ((Array.range (m * sz)).map fun i => z[i % z.size]!).toList = (List.replicate m z.toList).flatten := by
  have hl : ∀ e ∈ List.replicate m z.toList, e.length = sz := by
    intro e he
    have := List.eq_of_mem_replicate he
    subst this
    simpa using hz
  have hfl : (List.replicate m z.toList).flatten.length = m * sz := by rw [flat_length hl]; simp
  apply List.ext_getElem?
  intro i
  by_cases hi : i < m * sz
  · have e1 : i = i / sz * sz + i % sz := by rw [Nat.mul_comm]; exact (Nat.div_add_mod i sz).symm
    have hd : i / sz < m := (Nat.div_lt_iff_lt_mul hsz).2 hi
    have hmo : i % sz < sz := Nat.mod_lt _ hsz
    have hg : (List.replicate m z.toList)[i / sz]? = some z.toList := by simp [hd]
    conv => rhs; rw [e1]
    rw [flat_get hl hg hmo]
    have hmz : i % sz < z.size := by omega
    have e2 : z[i % sz]! = z[i % sz] := getElem!_pos z _ hmz
    simp [hi, hz, e2]
  · rw [List.getElem?_eq_none (by simp; omega), List.getElem?_eq_none (by omega)]

theorem flat_map_val (m : Nat) (l : List Value) : (List.replicate m (l.map AV.val)).flatten = ((List.replicate m l).flatten).map AV.val := by
  rw [List.map_flatten, List.map_replicate]
theorem vals_rep {c : Ctx} {l : List Value} (h1 : ∀ v ∈ l, v.oneCell' = true) : RepL c (l.map .val) l := by
  refine ⟨by simp, h1, fun i a v ha hv => ?_⟩
  rw [List.getElem?_map, hv] at ha
  simp at ha
  subst ha
  exact .val _

theorem own_rep {c : Ctx} {k sz m cap : Nat} (hinf : (c.H k).info = some (sz, m)) (hcap : m ≤ cap ∧ cap ≤ 9223372036854775807) (hr : c.room k (cap * sz)) {b : Nat} (hb : c.ρ k = b) : RepV c (.own k) (.slice (some ⟨b, 0, none⟩) m cap) := by
  rw [← hb]; exact .own k sz m cap hinf hcap hr

theorem fold_set_size (off : Nat) : ∀ (zl : List (Value × Nat)) (v : Array Value), (zl.foldl (fun (cs : Array Value) (p : Value × Nat) => cs.setIfInBounds (off + p.2) p.1) v).size = v.size
  | [], v => rfl
  | y :: ys, v => by simp only [List.foldl_cons]; rw [fold_set_size off ys]; simp
theorem fill_size (pc : Nat → Option (Nat × Nat)) : ∀ (pl : List (Nat × Value)) (v v' : Array Value), Instr.fill pc v pl = some v' → v'.size = v.size
  | [], v, v', hf => by simp [Instr.fill] at hf; rw [hf]
  | (i, u) :: r, v, v', hf => by
    unfold Instr.fill at hf
    split at hf
    · cases hf
    · split at hf
      · cases hf
      · have := fill_size pc r _ _ hf
        rw [this, ← Array.foldl_toList]
        exact fold_set_size _ _ _

theorem run_buildSlice {t e : TypeId} (hu : P.underlying t = some (.slice e)) {inf : TypeInfo} (hi : P.info? e = some inf) {z : Value} (hz : inf.zero = some z) {len : Nat} (hbig : len * inf.size ≤ 16777216) {parts : Array (Nat × Value)} {vs0 out : Array Value}
    (hvs : vs0 = (Array.range (len * inf.size)).map fun i => z.cells[i % z.cells.size]!) (hfill : Instr.fill (fun i => some (i * inf.size, inf.size)) vs0 parts.toList = some out) (w : World) :
    (Instr.buildSlice t len parts).run P w = .ok (.slice (some ⟨w.heap.size, 0, none⟩) len len) (w.alloc (.cells out e)) := by
  have hb : ¬ (len * inf.size > 2 ^ 24) := by omega
  simp only [Instr.buildSlice, Sem.run_bind, run_underlying hu, Result.andThen_ok, sizeOf, typeInfo, run_program, hi, Sem.run_pure]
  rw [if_neg hb]
  by_cases h0 : len * inf.size = 0
  · have hA : ∀ f : Nat → Value, (Array.range (len * inf.size)).map f = vs0 := by
      intro f
      rw [hvs, h0]
      apply Array.ext'
      simp
    rw [if_pos h0]
    simp only [Sem.run_bind, Sem.run_pure, Result.andThen_ok, hA, hfill, newRow, run_newObj]
    rfl
  · rw [if_neg h0]
    simp only [zeroValue, typeInfo, Sem.run_bind, run_program, Result.andThen_ok, hi, Sem.run_pure, hz, ← hvs, hfill, newRow, run_newObj]
    rfl

theorem buildSlice_sound (h : Sat E S tm a w ρ A) (hn0 : E.n0 ≤ n) (hn : S.H n = .dead) (hT : TOk P T) (hev : ∀ x, RepV (ctxOf E S.H w ρ A) (EV x) (a.eval x)) {t : TypeId} {len : Nat} {parts : Array (Nat × Operand)} (hop : o.op = .buildSlice t len parts)
    (hm : match T t with
    | some ti => ti.kind = 1 ∧ match T ti.elem with
      | some te => len * te.size ≤ 16777216 ∧ fillA (fun i => some (i * te.size, te.size)) ((List.replicate len (te.zero.map AV.val)).flatten) (parts.toList.map fun p => (p.1, EV p.2)) fun cs =>
          mkArr te len cs fun o => K { val := .own n, new := [o] }
      | none => False
    | none => False) : o.wp P a w (Fin E S tm n o.dst ρ w K) Q := by
  split at hm
  case h_2 => exact hm.elim
  case h_1 ti ht =>
    obtain ⟨hk, hm⟩ := hm
    split at hm
    case h_2 => exact hm.elim
    case h_1 te hte =>
      obtain ⟨hbig, hm⟩ := hm
      have hu := (hT t ti ht).slice hk
      have tye := hT _ te hte
      obtain ⟨inf, z, hi, hsz, hby, hz, hzc⟩ := tye.info
      have hzs : z.cells.size = te.size := by rw [← tye.zlen, ← hzc]; simp
      have hpos := tye.pos
      have hvs0 := range_mod hzs hpos len
      rw [hzc] at hvs0
      have hr0 : RepL (ctxOf E S.H w ρ A) ((List.replicate len (te.zero.map AV.val)).flatten) ((Array.range (len * te.size)).map fun i => z.cells[i % z.cells.size]!).toList := by
        rw [flat_map_val, hvs0]
        refine vals_rep fun v hv => ?_
        obtain ⟨e, he, hve⟩ := List.mem_flatten.1 hv
        rw [List.eq_of_mem_replicate he] at hve
        exact tye.one v hve
      obtain ⟨out, cs, hfill, hmk, hr⟩ := fillA_sound (parts.toList.map fun p => (p.1, EV p.2)) (parts.toList.map fun p => (p.1, a.eval p.2)) _ _ (by simp) (fun j p q hp hq => by
        rw [List.getElem?_map] at hp hq
        obtain ⟨p0, hp0, rfl⟩ := Option.map_eq_some_iff.1 hp
        rw [hp0] at hq
        simp at hq
        subst hq
        exact ⟨rfl, hev _⟩) hr0 hm
      have hcl : cs.length = len * te.size := by
        have h1 := hr.1
        have h3 := fill_size _ _ _ _ hfill
        simp at h1 h3
        omega
      have h63 : len ≤ 9223372036854775807 := by
        have := Nat.le_mul_of_pos_right len hpos
        omega
      obtain ⟨ob, hK, hne, ⟨sz, hinf, hszt⟩, hobj⟩ := mkArr_sound hpos hmk hcl
      have hs := h.alloc (n := n) hn0 hn (o := ob) (vs := out) (ty := ti.elem) (fun c hmv hb => hobj c n out ti.elem hb (hr.mono fun a v _ => hmv a v))
      refine fin_value (v := .slice (some ⟨w.heap.size, 0, none⟩) len len) (e := { val := .own n, new := [ob] }) ?_ hK hs ?_ (fr_alloc hn)
      · have hrun := run_buildSlice (P := P) (t := t) hu hi hz (len := len) (by rw [hsz]; exact hbig) (parts := parts.map fun p => (p.1, a.eval p.2)) (out := out) rfl (by rw [hsz]; simpa using hfill) w
        have e : (parts.map fun (p : Nat × Operand) => (p.1, a.eval p.2)) = parts.map fun (i, x) => (i, a.eval x) := rfl
        simp [execOp, hop, hrun]
      · refine own_rep (sz := sz) (by simpa [extH, setH, updH, killH] using hinf) ⟨Nat.le_refl _, h63⟩ ⟨out, ti.elem, (0, 0), ?_, ?_⟩ (by simp [setρ])
        · show (w.alloc _).heap[setρ ρ n w.heap.size n]? = _
          simp only [setρ, if_true]
          exact heap_alloc_new w _
        · have := hr.1
          simp at this
          rw [hszt]; omega

theorem room_alloc {n : Nat} {vs : Array Value} {ty : TypeId} {H : Nat → AO} {m : Nat} (hm : m ≤ vs.size) : (ctxOf E H (w.alloc (.cells vs ty)) (setρ ρ n w.heap.size) A).room n m := by
  refine ⟨vs, ty, (0, 0), ?_, hm⟩
  show (w.alloc _).heap[setρ ρ n w.heap.size n]? = _
  simp only [setρ, if_true]
  exact heap_alloc_new w _
end Go.Vc
