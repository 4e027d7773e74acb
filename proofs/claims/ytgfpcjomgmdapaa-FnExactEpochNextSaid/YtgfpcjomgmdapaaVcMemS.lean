/-
That the memory operations of the model do what the abstract ones say.
No conditions.
-/
import Derived.Test.YtgfpcjomgmdapaaVcMem
namespace Go.Vc
variable {P : Program} {T : TT} {E : Entry} {w : World} {ρ : Nat → Nat} {A : FA} {S : FS} {tm : Nat} {a : Act} {o : Oper} {EV : Operand → AV} {n : Nat} {K : Eff → Prop} {Q : Exit → Act → World → Prop}

theorem fin_value {v : Value} {w' : World} {ρ' : Nat → Nat} {A' : FA} {e : Eff} (hrun : (execOp a.eval o).run P w = .ok (.value v) w') (hK : K e)
    (hs : Sat E ⟨killE e.kill S.env, extH (updH (killH e.kill S.H) e.upd) n e.new, addF S.F e.newF⟩ tm a w' ρ' A')
    (hv : RepV (ctxOf E (extH (updH (killH e.kill S.H) e.upd) n e.new) w' ρ' A') e.val v) (hfr : Fr S.H ρ w (tchE e) (extH (updH (killH e.kill S.H) e.upd) n e.new) ρ' w') : o.wp P a w (Fin E S tm n o.dst ρ w K) Q := by
  unfold Oper.wp
  rw [hrun]
  exact ⟨e, hK, ρ', A', hs.put o.dst hv, hfr⟩
theorem fin_skip {w' : World} {ρ' : Nat → Nat} {A' : FA} {e : Eff} (hrun : (execOp a.eval o).run P w = .ok .skip w') (hK : K e)
    (hs : Sat E ⟨killE e.kill S.env, extH (updH (killH e.kill S.H) e.upd) n e.new, addF S.F e.newF⟩ tm a w' ρ' A')
    (hv : RepV (ctxOf E (extH (updH (killH e.kill S.H) e.upd) n e.new) w' ρ' A') e.val undef) (hfr : Fr S.H ρ w (tchE e) (extH (updH (killH e.kill S.H) e.upd) n e.new) ρ' w') : o.wp P a w (Fin E S tm n o.dst ρ w K) Q := by
  unfold Oper.wp
  rw [hrun]
  exact ⟨e, hK, ρ', A', hs.put o.dst hv, hfr⟩

theorem alloc_sound (h : Sat E S tm a w ρ A) (hn0 : E.n0 ≤ n) (hn : S.H n = .dead) (hT : TOk P T) {t : TypeId} (hop : o.op = .alloc t)
    (hm : match T t with | some ti => K { val := .ptr n 0, new := [.cells (ti.zero.map .val)] } | none => False) : o.wp P a w (Fin E S tm n o.dst ρ w K) Q := by
  split at hm
  case h_2 => exact hm.elim
  case h_1 ti ht =>
    have ty := hT t ti ht
    obtain ⟨inf, z, hi, hsz, hby, hz, hzc⟩ := ty.info
    have hs := h.alloc (n := n) hn0 hn (o := .cells (ti.zero.map .val)) (vs := z.cells) (ty := t) (fun c _ hb => repO_cells.2 ⟨_, _, hb, by rw [hzc]; exact zero_rep ty.one⟩)
    refine fin_value (v := .pointer (some ⟨w.heap.size, 0, none⟩)) (e := { val := .ptr n 0, new := [.cells (ti.zero.map .val)] }) ?_ hm hs ?_ (fr_alloc hn)
    · simp [execOp, hop, Instr.alloc, zeroValue, typeInfo, hi, hz, newVar, newRow]
    · have : RepV (ctxOf E (setH S.H n (.cells (ti.zero.map .val))) (w.alloc (.cells z.cells t)) (setρ ρ n w.heap.size) A) (.ptr n 0) (.pointer (some ⟨setρ ρ n w.heap.size n, 0, none⟩)) := .ptr n 0 (ti.zero.map .val) (by simp [setH])
      rw [show setρ ρ n w.heap.size n = w.heap.size by simp [setρ]] at this
      exact this

theorem box_sound (h : Sat E S tm a w ρ A) (hn0 : E.n0 ≤ n) (hn : S.H n = .dead) (hev : ∀ x, RepV (ctxOf E S.H w ρ A) (EV x) (a.eval x)) {t : TypeId} {x : Operand} (hop : o.op = .box t x)
    (hm : match cellsOf (EV x) with | some cs => K { val := .ptr n 0, new := [.cells cs] } | none => False) : o.wp P a w (Fin E S tm n o.dst ρ w K) Q := by
  split at hm
  case h_2 => exact hm.elim
  case h_1 cs hcs =>
    have hr := cellsOf_rep hcs (hev x)
    have hs := h.alloc (n := n) hn0 hn (o := .cells cs) (vs := (a.eval x).cells) (ty := t) (fun c hm hb => repO_cells.2 ⟨_, _, hb, hr.mono fun a v _ => hm a v⟩)
    refine fin_value (v := .pointer (some ⟨w.heap.size, 0, none⟩)) (e := { val := .ptr n 0, new := [.cells cs] }) ?_ hm hs ?_ (fr_alloc hn)
    · simp [execOp, hop, Instr.box, newVar, newRow]
    · have : RepV (ctxOf E (setH S.H n (.cells cs)) (w.alloc (.cells (a.eval x).cells t)) (setρ ρ n w.heap.size) A) (.ptr n 0) (.pointer (some ⟨setρ ρ n w.heap.size n, 0, none⟩)) := .ptr n 0 cs (by simp [setH])
      rw [show setρ ρ n w.heap.size n = w.heap.size by simp [setρ]] at this
      exact this

theorem run_storeVar (hT : TOk P T) {t : TypeId} {ti : TI} (ht : T t = some ti) {g off : Nat} {cur : Array Value} {ty : TypeId} {w : World} (hg : w.heap[g]? = some (.cells cur ty (0, 0))) {v : Value}
    (hl : v.cells.size = ti.size) (hfit : off + v.cells.size ≤ cur.size) (h1 : ∀ u ∈ v.cells.toList, u.oneCell' = true) :
    (storeVar t ⟨g, off, none⟩ v).run P w = .ok () (w.setRow g (splice cur.toList off v.cells.toList).toArray) := by
  have hst := run_storeCells_at P g off ty v.cells.toList 0 cur w hg (by simpa using hfit) h1
  simp only [Nat.add_zero] at hst
  have hs := size_of hT ht w
  simp [storeVar, hs, hl, hst, splice, List.append_assoc]

theorem splice_size {cur : Array Value} {off : Nat} {x : List Value} (h : off + x.length ≤ cur.size) : (splice cur.toList off x).toArray.size = cur.size := by
  simp only [List.size_toArray]
  rw [length_splice _ _ _ (by simpa using h)]
  simp

/-- An element of a row, turned in place. -/
theorem flat_set {sz : Nat} : ∀ {l : List (List AV)}, (∀ e ∈ l, e.length = sz) → ∀ {i : Nat} {e x : List AV} {off : Nat}, l[i]? = some e → off + x.length ≤ sz →
    (l.set i (splice e off x)).flatten = splice l.flatten (i * sz + off) x
  | [], _, i, e, x, off, hi, _ => by simp at hi
  | y :: r, h, 0, e, x, off, hi, hl => by
    simp at hi
    subst hi
    have hy := h y (by simp)
    simp only [List.set_cons_zero, List.flatten_cons, Nat.zero_mul, Nat.zero_add, splice]
    rw [List.take_append_of_le_length (by omega), List.drop_append_of_le_length (by omega)]
    simp [List.append_assoc]
  | y :: r, h, i + 1, e, x, off, hi, hl => by
    simp at hi
    have hy := h y (by simp)
    have ih := flat_set (fun z hz => h z (by simp [hz])) hi hl
    simp only [List.set_cons_succ, List.flatten_cons]
    rw [ih]
    unfold splice
    have e1 : (i + 1) * sz + off = y.length + (i * sz + off) := by rw [hy, Nat.add_mul]; omega
    rw [e1, List.take_append, List.drop_append]
    have e2 : y.length + (i * sz + off) + x.length - y.length = i * sz + off + x.length := by omega
    have e3 : y.length + (i * sz + off) - y.length = i * sz + off := by omega
    rw [e2, e3, List.take_of_length_le (l := y) (by omega), List.drop_eq_nil_of_le (as := y) (by omega)]
    simp [List.append_assoc]

/-- The object behind a write into an element. -/
theorem elem_write {c c' : Ctx} {k sz : Nat} (hsz : 0 < sz) {l : List (List AV)} (ho : RepO c k (.arr sz l)) {vs : Array Value} {ty : TypeId} (hb : c.w.heap[c.ρ k]? = some (.cells vs ty (0, 0)))
    {i : Nat} {e cs : List AV} {us : List Value} {off : Nat} (hi : l[i]? = some e) (hl : off + cs.length ≤ sz) (hp : cs.all pureB = true) (hr : RepL c cs us) (hm : ∀ r v, RepV c r v → RepV c' r v)
    (hb' : c'.w.heap[c'.ρ k]? = some (.cells (splice vs.toList (i * sz + off) us).toArray ty (0, 0))) : RepO c' k (.arr sz (l.set i (splice e off cs))) := by
  obtain ⟨vs0, T0, h1, h5, h3, h2, h4, h6⟩ := (repO_flat hsz).1 ho
  rw [hb] at h1
  cases h1
  have he := h5 e (List.mem_of_getElem? hi)
  have hel : ∀ x ∈ l.set i (splice e off cs), x.length = sz := by
    intro x hx
    rcases List.mem_or_eq_of_mem_set hx with hx | rfl
    · exact h5 x hx
    · rw [length_splice _ _ _ (by omega)]; exact he
  have hil : i < l.length := (List.getElem?_eq_some_iff.1 hi).1
  have hm' : i * sz + sz ≤ l.length * sz := by
    have := Nat.mul_le_mul_right sz (show i + 1 ≤ l.length by omega)
    rw [Nat.add_mul, Nat.one_mul] at this; exact this
  have hus : us.length = cs.length := hr.1
  have hfl := flat_set h5 hi hl
  refine (repO_flat hsz).2 ⟨_, ty, hb', hel, fun v hv => ?_, by rw [splice_size (by omega)]; simpa using h2, ?_, fun x hx => ?_⟩
  · simp only [splice, List.mem_append] at hv
    rcases hv with hv | hv | hv
    · exact h3 v (List.mem_of_mem_take hv)
    · exact hr.2.1 v hv
    · exact h3 v (List.mem_of_mem_drop hv)
  · rw [hfl]
    have hsp := (h4.splice hr (i * sz + off)).mono (c' := c') fun a v _ => hm a v
    have e1 : splice (vs.toList.take (l.length * sz)) (i * sz + off) us = ((splice vs.toList (i * sz + off) us).toArray.toList).take ((l.set i (splice e off cs)).length * sz) := by
      simp only [splice, List.length_set]
      rw [List.take_take, Nat.min_eq_left (by omega), List.drop_take, ← List.append_assoc, ← List.append_assoc, List.take_append, List.take_of_length_le (l := List.take (i * sz + off) vs.toList ++ us) (by simp; omega)]
      congr 2
      simp
      omega
    rw [e1] at hsp
    exact hsp
  · rw [hfl] at hx
    simp only [splice, List.mem_append] at hx
    rcases hx with hx | hx | hx
    · exact h6 x (List.mem_of_mem_take hx)
    · exact List.all_eq_true.1 hp x hx
    · exact h6 x (List.mem_of_mem_drop hx)
end Go.Vc
