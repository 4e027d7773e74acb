/-
The operations that only reckon or read: the run of each comes to a value that the abstract operation describes.
No conditions.
-/
import Derived.Test.YtalbgcpfekmfoaaVcMA
import Derived.Laws.IdiomStrings
import Derived.LaidEql
namespace Go.Vc
variable {P : Program} {T : TT} {E : Entry} {H : Nat → AO} {F : List Fam} {w : World} {ρ : Nat → Nat} {A : FA} {K : AV → Prop} {D : World → Prop}

/-- A run to a value that K's argument describes; the world stays. -/
def Yields (P : Program) (c : Ctx) (D : World → Prop) (s : Sem Value) (K : AV → Prop) : Prop := ∃ v x, K x ∧ RepV c x v ∧ ∀ w', D w' → s.run P w' = .ok v w'
/-- The world reads as c's where it may be read, and in object k. -/
def Ag (c : Ctx) (k : Option Nat) (w' : World) : Prop := (∀ b, c.ok b ∨ c.Z b → w'.heap[b]? = c.w.heap[b]?) ∧ ∀ j, k = some j → w'.heap[c.ρ j]? = c.w.heap[c.ρ j]?
/-- The object that an operation reads. -/
def readsOf (op : Op) (args : List AV) : Option Nat := match op, args with
  | .load _ _, [x] => refOf x
  | .convert _ _ _, [x] => refOf x
  | _, _ => none

theorem zero_rep {c : Ctx} {ti : TI} (h1 : ∀ v ∈ ti.zero, v.oneCell' = true) : RepL c (ti.zero.map .val) ti.zero := by
  refine ⟨by simp, h1, fun i a v ha hv => ?_⟩
  rw [List.getElem?_map] at ha
  obtain ⟨a0, ha0, rfl⟩ := Option.map_eq_some_iff.1 ha
  rw [hv] at ha0
  cases ha0
  exact .val _

theorem binA_sound {c : Ctx} {op : BinOp} {x y : AV} {u v : Value} {t : TypeId} {ox oy : Operand} (h : binA op x y K) (hx : RepV c x u) (hy : RepV c y v) :
    Yields P c D (do eqGuard op t ox oy u v; binOp op t u v) K := by
  unfold binA at h
  split at h
  case h_3 => exact h.elim
  case h_1 k a k' b =>
    cases hx; cases hy
    have hg : ∀ op (w : World), (eqGuard op t ox oy (.int k a) (.int k' b)).run P w = .ok () w := by
      intro op w
      unfold eqGuard
      cases op <;> simp
    cases op <;> simp only [] at h <;> try exact h.elim
    case shr =>
      obtain ⟨h0, rfl, h1, h⟩ := h
      have e : min (1 : Nat) k.bits = 1 := by omega
      have e2 : a.fdiv 2 = a / 2 := Int.fdiv_eq_ediv_of_nonneg a (by decide)
      exact ⟨_, _, h, .val _, fun w' _ => by simp [hg, binOp, Op.shift, e, e2]⟩
    all_goals obtain ⟨rfl, h⟩ := h
    case add => exact ⟨_, _, h.2, .val _, fun w' _ => by simp [hg, binOp, Op.intArith, rng_wrap h.1]⟩
    case sub => exact ⟨_, _, h.2, .val _, fun w' _ => by simp [hg, binOp, Op.intArith, rng_wrap h.1]⟩
    case mul => exact ⟨_, _, h.2, .val _, fun w' _ => by simp [hg, binOp, Op.intArith, rng_wrap h.1]⟩
    case quo =>
      obtain ⟨h1, h⟩ := h
      rcases h with ⟨h0, h2, h3⟩ | ⟨h0, h3⟩
      · have e : a.tdiv b = a / b := Int.tdiv_eq_ediv_of_nonneg h0
        exact ⟨_, _, h3, .val _, fun w' _ => by simp [hg, binOp, Op.intDiv, e, rng_wrap h2, show b ≠ 0 by omega]⟩
      · have e : a.tdiv b = 0 := by
          have : a = -(-a) := by omega
          rw [this, Int.neg_tdiv, Int.tdiv_eq_ediv_of_nonneg (by omega), Int.ediv_eq_zero_of_lt (by omega) (by omega)]
          rfl
        have h2 : k.wrap 0 = 0 := by cases k <;> rfl
        exact ⟨_, _, h3, .val _, fun w' _ => by simp [hg, binOp, Op.intDiv, e, h2, show b ≠ 0 by omega]⟩
    case rem =>
      obtain ⟨h0, h1, h3⟩ := h
      have e : a.tmod b = a % b := Int.tmod_eq_emod_of_nonneg h0
      exact ⟨_, _, h3, .val _, fun w' _ => by simp [hg, binOp, Op.intDiv, e, show b ≠ 0 by omega]⟩
    case xor => exact ⟨_, _, h, .val _, fun w' _ => by simp [hg, binOp, intBits_xor]⟩
    case and => exact ⟨_, _, h, .val _, fun w' _ => by simp [hg, binOp, intBits_and]⟩
    case or => exact ⟨_, _, h, .val _, fun w' _ => by simp [hg, binOp, intBits_or]⟩
    case eql => exact ⟨_, _, h, .val _, fun w' _ => by simp [hg, binOp, Op.intCmp]; rfl⟩
    case neq => exact ⟨_, _, h, .val _, fun w' _ => by simp [hg, binOp, Op.intCmp]; rfl⟩
    case lss => exact ⟨_, _, h, .val _, fun w' _ => by simp [hg, binOp, Op.intCmp]⟩
    case leq => exact ⟨_, _, h, .val _, fun w' _ => by simp [hg, binOp, Op.intCmp]⟩
    case gtr => exact ⟨_, _, h, .val _, fun w' _ => by simp [hg, binOp, Op.intCmp]⟩
    case geq => exact ⟨_, _, h, .val _, fun w' _ => by simp [hg, binOp, Op.intCmp]⟩
  case h_2 a b =>
    cases hx; cases hy
    cases op <;> simp only [] at h <;> try exact h.elim
    case add => exact ⟨_, _, h.2, .val _, fun w' _ => by simp [eqGuard, binOp, Op.stringOp]; have := h.1; omega⟩
    case eql => exact ⟨_, _, h, .val _, fun w' _ => by simp [eqGuard, binOp, Op.stringOp]⟩
    case neq => exact ⟨_, _, h, .val _, fun w' _ => by simp [eqGuard, binOp, Op.stringOp]⟩

theorem binB_sound {c : Ctx} (hT : TOk P T) {op : BinOp} {x y : AV} {u v : Value} {t : TypeId} {ox oy : Operand} (h : binB T op t x y K) (hx : RepV c x u) (hy : RepV c y v) :
    Yields P c D (do eqGuard op t ox oy u v; binOp op t u v) K := by
  unfold binB at h
  split at h
  case h_2 => exact binA_sound h hx hy
  case h_1 a b =>
    cases hx; cases hy
    split at h
    case h_2 => exact h.elim
    case h_1 ti ht =>
      have hb := (hT t ti ht).bool h.1
      have h := h.2
      have hg : ∀ op (w : World), (eqGuard op t ox oy (.bool a) (.bool b)).run P w = .ok () w := by
        intro op w
        unfold eqGuard
        cases op <;> simp
      cases op <;> simp only [] at h <;> try exact h.elim
      case eql => exact ⟨_, _, h, .val _, fun w' _ => by simp [hg, run_eql_bool (P := P) w' t a b hb]⟩
      case neq => exact ⟨_, _, h, .val _, fun w' _ => by simp [hg, run_neq_bool (P := P) w' t a b hb]⟩

theorem eqK_out {op : BinOp} {b : Bool} (h : eqK op b K) : (op = .eql ∧ K (B b)) ∨ (op = .neq ∧ K (B (!b))) := by
  cases op <;> simp only [eqK] at h
  case eql => exact .inl ⟨rfl, h⟩
  case neq => exact .inr ⟨rfl, h⟩
theorem eqK_yields {c : Ctx} {op : BinOp} {b : Bool} {t : TypeId} {u v : Value} {ox oy : Operand} (h : eqK op b K) (hg : ∀ w' : World, (eqGuard op t ox oy u v).run P w' = .ok () w')
    (hb : ∀ op, op = .eql ∨ op = .neq → binOp op t u v = if op = .eql then (do pure (.bool (← Op.equal t u v))) else (do pure (.bool (!(← Op.equal t u v))))) (he : ∀ w' : World, (Op.equal t u v).run P w' = .ok b w') :
    Yields P c D (do eqGuard op t ox oy u v; binOp op t u v) K := by
  rcases eqK_out h with ⟨rfl, h⟩ | ⟨rfl, h⟩
  · exact ⟨_, _, h, .val _, fun w' _ => by rw [hb _ (.inl rfl)]; simp [hg w', he w']⟩
  · exact ⟨_, _, h, .val _, fun w' _ => by rw [hb _ (.inr rfl)]; simp [hg w', he w']⟩
theorem nilA'_sound {c : Ctx} (hT : TOk P T) {op : BinOp} {x y : AV} {u v : Value} {t : TypeId} {ox oy : Operand} (h : nilA' T op t (isConst oy) x y K) (hx : RepV c x u) (hy : RepV c y v) :
    Yields P c D (do eqGuard op t ox oy u v; binOp op t u v) K := by
  unfold nilA' at h
  split at h
  case h_1 => exact h.elim
  case h_2 ti ht =>
    have ty := hT t ti ht
    have hptr : ∀ {op : BinOp} {b : Bool} {u : Option Addr}, eqK op b K → ti.kind = 7 → b = u.isNone → Yields P c D (do eqGuard op t ox oy (.pointer u) (.pointer none); binOp op t (.pointer u) (.pointer none)) K := by
      intro op b u hK hk hb
      have hu := ty.ptr hk
      refine eqK_yields hK (fun w' => ?_) (fun op ho => ?_) (fun w' => ?_)
      · unfold eqGuard; cases op <;> simp
      · rcases ho with rfl | rfl <;> cases u <;> rfl
      · have h1 : ∀ d : Nat, (Op.equalIn (d + 1) t (.pointer u) (.pointer none)).run P w' = .ok b w' := fun d => by
          subst hb
          cases u <;> simp [Op.equalIn, run_underlying hu]
        exact h1 9999
    split at h
    case h_8 => exact h.elim
    case h_1 =>
      cases hx; cases hy
      obtain ⟨ms, hu⟩ := ty.iface h.1
      have hc : oy matches .const _ := by
        have := h.2.1
        cases oy <;> simp [isConst] at this ⊢
      refine eqK_yields h.2.2 (fun w' => ?_) (fun op ho => ?_) (fun w' => ?_)
      · cases oy <;> simp [isConst] at h
        unfold eqGuard
        cases op <;> simp
      · rcases ho with rfl | rfl <;> rfl
      · have h1 : ∀ d : Nat, (Op.equalIn (d + 1) t .nilIface .nilIface).run P w' = .ok true w' := fun d => by simp [Op.equalIn, run_underlying hu]
        exact h1 9999
    case h_2 tx y =>
      cases hy
      cases hx
      obtain ⟨ms, hu⟩ := ty.iface h.1
      refine eqK_yields h.2 (fun w' => ?_) (fun op ho => ?_) (fun w' => ?_)
      · unfold eqGuard; cases op <;> simp
      · rcases ho with rfl | rfl <;> rfl
      · have h1 : ∀ (d : Nat) v, (Op.equalIn (d + 1) t (.iface tx v) .nilIface).run P w' = .ok false w' := fun d v => by simp [Op.equalIn, run_underlying hu]
        exact h1 9999 _
    all_goals
      cases hy
      cases hx
      exact hptr h.2 h.1 rfl
theorem binC_sound {c : Ctx} (hT : TOk P T) {op : BinOp} {x y : AV} {u v : Value} {t : TypeId} {ox oy : Operand} (h : binC T op t (isConst oy) x y K) (hx : RepV c x u) (hy : RepV c y v) :
    Yields P c D (do eqGuard op t ox oy u v; binOp op t u v) K := by
  unfold binC at h
  split at h
  · exact nilA'_sound hT h hx hy
  · exact nilA'_sound hT h hx hy
  · exact binB_sound hT h hx hy

theorem fam_cell (hs : SatW E H F w ρ A) {f i : Nat} {cs : List AV} (h : famOwn F f i cs) : (okOf E H w ρ (A.at_ f i) ∨ E.Z (A.at_ f i)) ∧ (∃ vs T, w.heap[A.at_ f i]? = some (.cells vs T (0, 0))) ∧ ∀ (j : Nat) n, cs[j]? = some (I n) → w.cell? ⟨A.at_ f i, j, none⟩ = some (.int .i64 n) := by
  obtain ⟨fam, hf, hp, hi⟩ := h
  have hr := hs.fam f fam hf
  obtain ⟨hok, vf, hv⟩ := hr.1 i cs hi
  refine ⟨hok, hr.2.2.2 hp i cs hi, fun j n hj => ?_⟩
  obtain ⟨h1, h2, h3, h4⟩ := hv j _ hj
  have h1 : w.cell? ⟨A.at_ f i, j, none⟩ = some (vf j) := h1
  rw [h1]
  revert h4
  generalize vf j = z
  intro h4
  cases h4
  rfl
theorem agg2_rep {c : Ctx} {a b : Int} {v : Value} (h : RepV c (.agg [.val (.int .i64 a), .val (.int .i64 b)]) v) : v = .agg #[.int .i64 a, .int .i64 b] := by
  cases h with
  | agg _ vs hl h1 h =>
    rcases vs with _ | ⟨u, _ | ⟨z, _ | ⟨y, r⟩⟩⟩ <;> simp at hl
    have q0 := h 0 _ u rfl rfl
    have q1 := h 1 _ z rfl rfl
    cases q0
    cases q1
    rfl
theorem eqS_sound (hT : TOk P T) {op : BinOp} {t : TypeId} {ox oy : Operand} {xs ys : List AV} {u v : Value} {K : AV → Prop} {c : Ctx} {D : World → Prop} (h : eqS T op t xs ys K) (hx : RepV c (.agg xs) u) (hy : RepV c (.agg ys) v) :
    Yields P c D (do eqGuard op t ox oy u v; binOp op t u v) K := by
  unfold eqS at h
  split at h
  case h_2 => exact h.elim
  case h_1 a b a' b' =>
    have e1 := agg2_rep hx
    have e2 := agg2_rep hy
    subst e1 e2
    split at h
    case h_1 => exact h.elim
    case h_2 ti ht =>
      obtain ⟨hk, ha, h⟩ := h
      obtain ⟨f1, f2, hu, n1, n2, o1, o2, u1, u2, hst, hgd⟩ := (hT t ti ht).cmp hk ha
      have hfs : P.fieldsOf t = #[f1, f2] := by simp [Program.fieldsOf, hu]
      have hp : ∀ (f : Field) (i : Nat) (x : Value) (vs : Array Value) (w : World), P.underlying f.type = some (.int .i64) → f.offset = i → vs[i]? = some x → (part f.type vs f.offset).run P w = .ok x w := by
        intro f i x vs w hf ho hv
        simp [part, isAgg, underlying, hf, ho, hv]
      have heq : ∀ w, (Op.equalIn 10000 t (.agg #[.int .i64 a, .int .i64 b]) (.agg #[.int .i64 a', .int .i64 b'])).run P w = .ok (decide (a = a' ∧ b = b')) w := by
        intro w
        rw [show (10000 : Nat) = 9998 + 1 + 1 from rfl, run_equalIn_struct w _ t _ _ (by rw [hfs]; exact hu) hst, hfs]
        have p1 := hp f1 0 (.int .i64 a) #[.int .i64 a, .int .i64 b] w u1 o1 rfl
        have p2 := hp f1 0 (.int .i64 a') #[.int .i64 a', .int .i64 b'] w u1 o1 rfl
        have p3 := hp f2 1 (.int .i64 b) #[.int .i64 a, .int .i64 b] w u2 o2 rfl
        have p4 := hp f2 1 (.int .i64 b') #[.int .i64 a', .int .i64 b'] w u2 o2 rfl
        have r1 : (Op.equalIn (9998 + 1) f1.type (.int .i64 a) (.int .i64 a')).run P w = .ok (a == a') w := run_equalIn_int w 9998 _ _ _ _ _ u1
        have r2 : (Op.equalIn (9998 + 1) f2.type (.int .i64 b) (.int .i64 b')).run P w = .ok (b == b') w := run_equalIn_int w 9998 _ _ _ _ _ u2
        simp only [Op.eqFields, if_pos n1, if_pos n2, Sem.run_bind, p1, p2, r1, Result.andThen_ok]
        by_cases h1 : a = a'
        · have e1 : (a == a') = true := by simp [h1]
          rw [e1]
          simp only [Bool.not_true, Bool.false_eq_true, if_false, Sem.run_bind, p3, p4, r2, Result.andThen_ok]
          by_cases h2 : b = b'
          · have e2 : (b == b') = true := by simp [h2]
            rw [e2]
            simp [h1, h2]
          · have e2 : (b == b') = false := by simp [h2]
            rw [e2]
            simp [h2]
        · have e1 : (a == a') = false := by simp [h1]
          rw [e1]
          simp [h1]
      have hrun : ∀ w, ((do eqGuard op t ox oy (.agg #[.int .i64 a, .int .i64 b]) (.agg #[.int .i64 a', .int .i64 b']); binOp op t (.agg #[.int .i64 a, .int .i64 b]) (.agg #[.int .i64 a', .int .i64 b'])) : Sem Value).run P w = (binOp op t (.agg #[.int .i64 a, .int .i64 b]) (.agg #[.int .i64 a', .int .i64 b'])).run P w := by
        intro w
        rw [Sem.run_bind, run_eqGuard_agg w op t ox oy _ _ hgd]
        rfl
      unfold eqK at h
      split at h
      · exact ⟨_, _, h, .val _, fun w' _ => by rw [hrun, run_eql_struct, heq]; rfl⟩
      · exact ⟨_, _, h, .val _, fun w' _ => by rw [hrun, run_neq_struct, heq]; rfl⟩
      · exact h.elim
theorem rpEq_sound (hs : SatW E H F w ρ A) (hT : TOk P T) {op : BinOp} {f i o f' i' o' : Nat} {u v : Value} {t : TypeId} {ox oy : Operand} (h : rpEq T F op t f i o f' i' o' K) (hx : RepV (ctxOf E H w ρ A) (.rp f i o) u) (hy : RepV (ctxOf E H w ρ A) (.rp f' i' o') v)
    (hD : ∀ w', D w' → ∀ b, okOf E H w ρ b ∨ E.Z b → w'.heap[b]? = w.heap[b]?) : Yields P (ctxOf E H w ρ A) D (do eqGuard op t ox oy u v; binOp op t u v) K := by
  unfold rpEq at h
  split at h
  case h_1 => exact h.elim
  case h_2 ti ht =>
    obtain ⟨hk, ⟨te, hte, hsz⟩, b, hb, hK⟩ := h
    have hp := (hT t ti ht).ptr hk
    obtain ⟨inf, z, hinf, hsize, _⟩ := (hT _ te hte).info
    cases hx
    cases hy
    have hbo : ∀ op, op = .eql ∨ op = .neq → ∀ p q : Option Addr, binOp op t (.pointer p) (.pointer q) = if op = .eql then (do pure (.bool (← Op.equal t (.pointer p) (.pointer q)))) else (do pure (.bool (!(← Op.equal t (.pointer p) (.pointer q))))) := by
      intro op ho p q
      rcases ho with rfl | rfl <;> rfl
    have hg : ∀ w' : World, ∀ p q : Option Addr, (eqGuard op t ox oy (.pointer p) (.pointer q)).run P w' = .ok () w' := by
      intro w' p q
      unfold eqGuard
      cases op <;> simp
    have key : ∀ w', D w' → (Op.equal t (.pointer (some ⟨A.at_ f i, o, none⟩)) (.pointer (some ⟨A.at_ f' i', o', none⟩))).run P w' = .ok b w' := by
      intro w' hw
      cases b with
      | true =>
        obtain ⟨rfl, rfl, rfl⟩ := hb
        have h1 : ∀ d : Nat, (Op.equalIn (d + 1) t (.pointer (some ⟨A.at_ f i, o, none⟩)) (.pointer (some ⟨A.at_ f i, o, none⟩))).run P w' = .ok true w' := fun d => by
          simp [Op.equalIn, run_underlying hp, sizeOf, typeInfo, hinf, run_sameAddr_same]
        exact h1 9999
      | false =>
        obtain ⟨cs, cs', j, n, m, hf, hf', hj, hj', hnm⟩ := hb
        obtain ⟨ok1, ⟨vs1, T1, s1⟩, c1⟩ := fam_cell hs hf
        obtain ⟨ok2, ⟨vs2, T2, s2⟩, c2⟩ := fam_cell hs hf'
        have hne : (⟨A.at_ f i, o, none⟩ : Addr) ≠ ⟨A.at_ f' i', o', none⟩ := by
          intro e
          have e : A.at_ f i = A.at_ f' i' := congrArg Addr.block e
          have q1 := c1 j n hj
          have q2 := c2 j m hj'
          rw [e, q2] at q1
          have q3 := Option.some.inj q1
          injection q3 with _ q4
          exact hnm q4.symm
        have h1 : ∀ d : Nat, (Op.equalIn (d + 1) t (.pointer (some ⟨A.at_ f i, o, none⟩)) (.pointer (some ⟨A.at_ f' i', o', none⟩))).run P w' = .ok false w' := fun d => by
          have hs0 : inf.size ≠ 0 := by omega
          simp [Op.equalIn, run_underlying hp, sizeOf, typeInfo, hinf, hs0, run_sameAddr_other w' hne ((hD w' hw _ ok1).trans s1) ((hD w' hw _ ok2).trans s2)]
        exact h1 9999
    rcases eqK_out hK with ⟨rfl, hK⟩ | ⟨rfl, hK⟩
    · exact ⟨_, _, hK, .val _, fun w' hw => by rw [hbo _ (.inl rfl)]; simp [hg w', key w' hw]⟩
    · exact ⟨_, _, hK, .val _, fun w' hw => by rw [hbo _ (.inr rfl)]; simp [hg w', key w' hw]⟩
theorem strA_sound {c : Ctx} (hT : TOk P T) {t : TypeId} {x i : AV} {u v : Value} (h : strA T t x i K) (hx : RepV c x u) (hi : RepV c i v) : Yields P c D (Instr.index t u v) K := by
  unfold strA at h
  split at h
  case h_2 => exact h.elim
  case h_1 ti s k n ht =>
    cases hx; cases hi
    obtain ⟨hk, h0, h1, h⟩ := h
    have hu := (hT t ti ht).string hk
    have hlt : n.toNat < s.size := by omega
    have hl : n.toNat < s.data.toList.length := by simpa using hlt
    refine ⟨_, _, h (s.data.toList[n.toNat]) (List.getElem?_eq_getElem hl) (UInt8.toNat_lt _), .val _, fun w' _ => ?_⟩
    have hg : s[n.toNat]? = some (s.data.toList[n.toNat]) := by
      rw [getElem?_pos s n.toNat hlt]
      rfl
    simp [Instr.index, asIntOf, run_underlying hu, h0, hg]

theorem assertA_sound {c : Ctx} (hT : TOk P T) {s xt : TypeId} {ok : Bool} {x : AV} {u : Value} (h : assertA T s ok x K) (hx : RepV c x u) : Yields P c D (Instr.typeAssert u xt s ok) K := by
  unfold assertA at h
  split at h
  case h_1 => exact h.elim
  case h_2 ti ht =>
    have ty := hT s ti ht
    obtain ⟨hk, ha, h⟩ := h
    obtain ⟨fs, hu, _, _⟩ := ty.struct hk
    obtain ⟨inf, vs, hi, hz⟩ := ty.zagg ha
    obtain ⟨inf', z, hi', _, _, hz', hzc⟩ := ty.info
    rw [hi] at hi'
    cases hi'
    rw [hz] at hz'
    cases hz'
    have hzr : RepV c (.tup [.agg (ti.zero.map .val), B false]) (.tuple #[.agg vs, .bool false]) := by
      have h1 : RepV c (.agg (ti.zero.map .val)) (.agg vs) := by
        have := (zero_rep (c := c) ty.one).agg
        rw [← hzc] at this ⊢
        simpa [Value.cells] using this
      refine .tup _ [.agg vs, .bool false] rfl (by simp) fun i a v hi hv => ?_
      match i with
      | 0 => simp at hi hv; subst hi hv; exact h1
      | 1 => simp at hi hv; subst hi hv; exact .val _
      | n + 2 => simp at hi
    split at h
    case h_3 => exact h.elim
    case h_1 tx y =>
      cases hx with
      | iface _ _ v hp hr =>
        split at h
        · rename_i e
          subst e
          obtain ⟨hag, h⟩ := h
          cases ok with
          | true =>
            refine ⟨.tuple #[v, .bool true], _, h, ?_, fun w' _ => by simp [Instr.typeAssert, run_underlying hu]⟩
            refine .tup _ [v, .bool true] rfl (fun v' hv' us => ?_) fun i a v' hi hv => ?_
            · simp at hv'
              rcases hv' with rfl | rfl
              · rintro rfl
                cases y <;> simp [isAggA] at hag
                cases hr
              · simp
            · match i with
              | 0 => simp at hi hv; subst hi hv; exact hr
              | 1 => simp at hi hv; subst hi hv; exact .val _
              | n + 2 => simp at hi
          | false => exact ⟨v, _, h, hr, fun w' _ => by simp [Instr.typeAssert, run_underlying hu]⟩
        · rename_i e
          obtain ⟨rfl, h⟩ := h
          exact ⟨_, _, h, hzr, fun w' _ => by simp [Instr.typeAssert, run_underlying hu, e, zeroValue, typeInfo, hi, hz]⟩
    case h_2 =>
      cases hx
      obtain ⟨rfl, h⟩ := h
      exact ⟨_, _, h, hzr, fun w' _ => by simp [Instr.typeAssert, run_underlying hu, zeroValue, typeInfo, hi, hz]⟩

theorem unA_sound {c : Ctx} {op : UnOp} {x : AV} {u : Value} (h : unA op x K) (hx : RepV c x u) : Yields P c D (Op.unary op u) K := by
  unfold unA at h
  split at h
  case h_1 b => cases hx; exact ⟨_, _, h, .val _, fun w' _ => by simp [Op.unary]⟩
  case h_2 k n => cases hx; exact ⟨_, _, h.2, .val _, fun w' _ => by simp only [Op.unary, Op.intArith, rng_wrap h.1, Sem.run_pure]⟩
  case h_3 => exact h.elim

theorem convA_sound {c : Ctx} (hT : TOk P T) {src dst : TypeId} {x : AV} {u : Value} (h : convA T src dst x K) (hx : RepV c x u) : Yields P c D (convert src dst u) K := by
  unfold convA at h
  split at h
  case h_1 k n ts ti hts ht =>
    cases hx
    have h3 := ikK_out h.2.2
    exact ⟨_, _, h3.2, .val _, fun w' _ => by simp [convert, run_underlying ((hT src ts hts).int h.1), run_underlying ((hT dst ti ht).int h.2.1), Conv.intToInt, rng_wrap h3.1]⟩
  case h_2 s ts ti hts ht =>
    cases hx
    exact ⟨_, _, h.2.2, .val _, fun w' _ => by simp [convert, run_underlying ((hT src ts hts).string h.1), run_underlying ((hT dst ti ht).string h.2.1)]⟩
  case h_3 => exact h.elim

theorem runU {t : TypeId} {d : TypeDesc} (h : P.underlying t = some d) (w : World) : (underlying t).run P w = .ok d w := run_underlying h w
theorem lenA_sound {E : Entry} {H : Nat → AO} {w : World} {x : AV} {u : Value} (h : lenA H x K) (hx : RepV (ctxOf E H w ρ A) x u) : ∃ n y, K y ∧ y = .val (.int .i64 n) ∧ ∃ a m cap, u = .slice a m cap ∧ (m : Int) = n := by
  unfold lenA at h
  split at h
  case h_1 l =>
    cases hx with
    | ints l v h' =>
      have hl : (icells l).length = l.length := by simp [icells]
      revert hl h'
      generalize icells l = cs
      intro h' hl
      cases h' with
      | sl0 sz a cap => exact ⟨_, _, h, rfl, a, 0, cap, rfl, by simp at hl; simp [← hl]⟩
      | sl sz l b off cap vf hok hcap hl' hc hh => exact ⟨_, _, h, rfl, _, _, cap, rfl, by rw [hl]⟩
  case h_2 l =>
    cases hx with
    | bytes0 a cap => exact ⟨_, _, h, rfl, a, 0, cap, rfl, rfl⟩
    | bytes l b off cap hz hcap hc => exact ⟨_, _, h, rfl, _, _, cap, rfl, rfl⟩
  case h_3 sz l =>
    cases hx with
    | sl0 sz a cap => exact ⟨_, _, h, rfl, a, 0, cap, rfl, rfl⟩
    | sl sz l b off cap vf hok hcap hl' hc hh => exact ⟨_, _, h, rfl, _, _, cap, rfl, rfl⟩
  case h_4 sz l =>
    cases hx with
    | zsl0 sz a cap => exact ⟨_, _, h, rfl, a, 0, cap, rfl, rfl⟩
    | zsl sz l b off cap vf hz hcap hl' hc hh => exact ⟨_, _, h, rfl, _, _, cap, rfl, rfl⟩
  case h_5 k =>
    cases hx with
    | own k sz n cap hk hcap hr =>
      split at h
      case h_1 l hl =>
        have hk' : (H k).info = some (sz, n) := hk
        rw [hl] at hk'
        simp only [AO.info, Option.some.injEq, Prod.mk.injEq] at hk'
        exact ⟨_, _, h, rfl, _, _, cap, rfl, by rw [hk'.2]⟩
      case h_2 l hl =>
        have hk' : (H k).info = some (sz, n) := hk
        rw [hl] at hk'
        simp only [AO.info, Option.some.injEq, Prod.mk.injEq] at hk'
        exact ⟨_, _, h, rfl, _, _, cap, rfl, by rw [hk'.2]⟩
      case h_3 => exact h.elim
  case h_6 k lo hi =>
    cases hx with
    | sub k sz n lo hi o cap hk h1 h2 hcap hr ho => exact ⟨_, _, h, rfl, _, _, cap, rfl, rfl⟩
  case h_7 k off n => cases hx with | win _ _ _ cap cs hk hcap hr => exact ⟨_, _, h, rfl, _, _, cap, rfl, rfl⟩
  case h_8 a n cap => cases hx; exact ⟨_, _, h, rfl, a, n, cap, rfl, rfl⟩
  case h_9 => exact h.elim

theorem run_len {t : TypeId} {e : TypeId} (ht : P.underlying t = some (.slice e)) (ty : TypeId) (a : Option Addr) (n cap : Nat) (w : World) : (Builtin.len_ #[t] ty #[.slice a n cap]).run P w = .ok (.int .i64 n) w := by
  simp [Builtin.len_, run_underlying ht, goInt]

/-- Where a value lies, cell by cell. -/
theorem pieceA_sound {c : Ctx} (hT : TOk P T) {t : TypeId} {ti : TI} (ht : T t = some ti) {cs : List AV} {b off : Nat} {vf : Nat → Value} (h : pieceA ti cs K)
    (hD : ∀ w', D w' → w'.heap[b]? = c.w.heap[b]?) (hc : ∀ (j : Nat) a, cs[j]? = some a → c.w.cell? ⟨b, off + j, none⟩ = some (vf j) ∧ (vf j).oneCell' = true ∧ RepV c a (vf j)) : Yields P c D (loadVar t ⟨b, off, none⟩) K := by
  have ty := hT t ti ht
  unfold pieceA at h
  split at h
  · rename_i hagg
    obtain ⟨hsz, hK⟩ := h
    obtain ⟨i, z, hi, hs, _⟩ := ty.info
    have hl := fun w' (hw : D w') => run_loadCells (P := P) w' ⟨b, off, none⟩ ti.size vf (fun j hj => by
      have hj' : j < cs.length := by omega
      have := (World.cell?_of_block (w := c.w) (hD w' hw)).trans (hc j cs[j] (List.getElem?_eq_getElem hj')).1
      unfold Addr.add
      split
      · rename_i e; subst e; simpa using this
      · simpa using this)
    refine ⟨.agg ((List.range ti.size).map vf).toArray, _, hK, ?_, ?_⟩
    · refine .agg _ _ (by simp; omega) (fun v hv => ?_) (fun j a v ha hv => ?_)
      · obtain ⟨j, hj, rfl⟩ := List.mem_map.1 hv
        have hj' : j < cs.length := by have := List.mem_range.1 hj; omega
        exact (hc j cs[j] (List.getElem?_eq_getElem hj')).2.1
      · rw [List.getElem?_take] at ha
        split at ha
        · rename_i hlt
          simp [hlt] at hv
          subst hv
          exact (hc j a ha).2.2
        · cases ha
    · intro w' hw; simp [loadVar, ty.agg, hagg, sizeOf, typeInfo, hi, hs, hl w' hw]
  · rename_i hagg
    split at h
    case h_2 => exact h.elim
    case h_1 a rest =>
      have := hc 0 a rfl
      simp only [Nat.add_zero] at this
      refine ⟨vf 0, a, h, this.2.2, fun w' hw => ?_⟩
      have hcell := (World.cell?_of_block (w := c.w) (hD w' hw)).trans this.1
      have hagg' : ti.agg = false := by simpa using hagg
      simp [loadVar, ty.agg, hagg', hcell]

theorem run_fieldAt {t ft : TypeId} {fs : Array Field} {b off o s j : Nat} (hu : P.underlying t = some (.struct fs)) {f : Field} (hf : fs[j]? = some f) (ho : f.offset = o) (hft : f.type = ft) (hs : P.cellsOf ft = s) (hpos : 0 < s) (w : World) :
    (Instr.fieldAt t (.pointer (some ⟨b, off, none⟩)) j).run P w = .ok (.pointer (some ⟨b, off + o, none⟩)) w := by
  subst ho hft
  have hi : ∃ i, P.info? f.type = some i ∧ i.size = s := by
    unfold Program.cellsOf at hs
    cases h : P.info? f.type with
    | none => simp [h] at hs; omega
    | some i => simp [h] at hs; exact ⟨i, rfl, hs⟩
  obtain ⟨i, hi, hsz⟩ := hi
  have hne : ¬ (i.size = 0) := by omega
  have hadd : (⟨b, off, none⟩ : Addr).add f.offset = ⟨b, off + f.offset, none⟩ := by unfold Addr.add; split <;> simp_all
  simp [Instr.fieldAt, run_underlying hu, hf, Instr.sureAddr, fieldPlace, sizeOf, typeInfo, hi, hne, hadd]

theorem add_none (b off n : Nat) : (⟨b, off, none⟩ : Addr).add n = ⟨b, off + n, none⟩ := by unfold Addr.add; split <;> simp_all

theorem fieldAddrA_sound {c : Ctx} (hT : TOk P T) {t : TypeId} {x : AV} {u : Value} {f : Nat} (h : fieldAddrA T t x f K) (hx : RepV c x u) : Yields P c D (Instr.fieldAt t u f) K := by
  unfold fieldAddrA at h
  split at h
  case h_2 => exact h.elim
  case h_1 ti ht =>
    obtain ⟨fs, hu, hfs, _⟩ := (hT t ti ht).struct h.1
    have h := h.2
    split at h
    case h_2 => exact h.elim
    case h_1 o s hf =>
      rw [hfs, List.getElem?_map] at hf
      obtain ⟨fd, hfd, he⟩ := Option.map_eq_some_iff.1 hf
      have hfd' : fs[f]? = some fd := by simpa using hfd
      simp only [Prod.mk.injEq] at he
      obtain ⟨hpos, h⟩ := h
      have hr : ∀ b off (w' : World), (Instr.fieldAt t (.pointer (some ⟨b, off, none⟩)) f).run P w' = .ok (.pointer (some ⟨b, off + o, none⟩)) w' :=
        fun b off w' => run_fieldAt hu hfd' he.1 rfl he.2 hpos w'
      split at h
      case h_5 => exact h.elim
      case h_1 =>
        cases hx with
        | ptr _ _ cs hk => exact ⟨_, _, h, .ptr _ _ cs hk, fun w' _ => hr _ _ w'⟩
      case h_2 =>
        cases hx with
        | el _ _ _ sz n hk hi => exact ⟨_, _, h, .el _ _ _ sz n hk hi, fun w' _ => by rw [hr, Nat.add_assoc]⟩
      case h_3 =>
        cases hx with
        | rp _ _ _ hf => exact ⟨_, _, h, .rp _ _ _ hf, fun w' _ => hr _ _ w'⟩
      case h_4 =>
        cases hx with
        | ro cs b off vf hok hc hh =>
          refine ⟨_, _, h, .ro _ b (off + o) (fun j => vf (o + j)) hok (fun j a hj => ?_) (fun j a hj => ?_), fun w' _ => hr _ _ w'⟩
          · rw [List.getElem?_drop] at hj
            have := hc _ a hj
            rw [Nat.add_assoc]; exact this
          · rw [List.getElem?_drop] at hj
            exact hh _ a hj

theorem obj_cells {c : Ctx} {k : Nat} {cs : List AV} (h : RepO c k (.cells cs)) (off : Nat) : ∃ vf : Nat → Value, ∀ (j : Nat) a, (cs.drop off)[j]? = some a → c.w.cell? ⟨c.ρ k, off + j, none⟩ = some (vf j) ∧ (vf j).oneCell' = true ∧ RepV c a (vf j) := by
  obtain ⟨vs, T, h1, h2⟩ := repO_cells.1 h
  refine ⟨fun j => vs.toList.getD (off + j) undef, fun j a hj => ?_⟩
  rw [List.getElem?_drop] at hj
  obtain ⟨v, hv, h3, h4⟩ := h2.get hj
  have e : vs.toList.getD (off + j) undef = v := by rw [List.getD, hv]; rfl
  dsimp only
  rw [e]
  exact ⟨by rw [cell_of_row c.w _ _ vs T (0, 0) h1]; simpa using hv, h3, h4⟩

theorem obj_arr {c : Ctx} {k sz : Nat} {l : List (List AV)} (h : RepO c k (.arr sz l)) {i : Nat} {e : List AV} (hi : l[i]? = some e) (off : Nat) : ∃ vf : Nat → Value, ∀ (j : Nat) a, (e.drop off)[j]? = some a → c.w.cell? ⟨c.ρ k, i * sz + off + j, none⟩ = some (vf j) ∧ (vf j).oneCell' = true ∧ RepV c a (vf j) ∧ pureB a = true := by
  obtain ⟨vs, T, h1, h2, h3, h5, h4⟩ := h
  refine ⟨fun j => vs.toList.getD (i * sz + off + j) undef, fun j a hj => ?_⟩
  rw [List.getElem?_drop] at hj
  have hsz := h5 i e hi
  have hjl : off + j < sz := by rw [← hsz]; exact (List.getElem?_eq_some_iff.1 hj).1
  have hil : i < l.length := (List.getElem?_eq_some_iff.1 hi).1
  have hm : i * sz + sz ≤ l.length * sz := by
    have := Nat.mul_le_mul_right sz (show i + 1 ≤ l.length by omega)
    rw [Nat.add_mul, Nat.one_mul] at this; exact this
  have hlt : i * sz + off + j < vs.size := by omega
  have hv : vs[i * sz + (off + j)]? = some (vs[i * sz + off + j]) := by rw [← Nat.add_assoc]; exact Array.getElem?_eq_getElem hlt
  have := h4 i e (off + j) a _ hi hj hv
  have e' : vs.toList.getD (i * sz + off + j) undef = vs[i * sz + off + j] := by simp [List.getD, hlt]
  dsimp only
  rw [e']
  exact ⟨by rw [cell_of_row c.w _ _ vs T (0, 0) h1]; exact Array.getElem?_eq_getElem hlt, h3 _ (by simp), this.1, this.2⟩

theorem convB_sound (hs : SatW E H F w ρ A) (hT : TOk P T) {src dst : TypeId} {x : AV} {u : Value} (h : convB T H src dst x K) (hx : RepV (ctxOf E H w ρ A) x u) (hD : ∀ w', D w' → Ag (ctxOf E H w ρ A) (refOf x) w') : Yields P (ctxOf E H w ρ A) D (convert src dst u) K := by
  unfold convB at h
  split at h
  case h_2 => exact convA_sound hT h hx
  case h_1 k =>
    split at h
    case h_2 => exact h.elim
    case h_1 sz n ts ti hk hts hti =>
      obtain ⟨h1, h2, ⟨te, hte, h3, h4⟩, h5, h6, h⟩ := h
      cases hx with
      | own _ sz' m cap hinf hcap hr =>
        have hinf' : (H k).info = some (sz', m) := hinf
        rw [hk] at hinf'
        simp only [AO.info, List.length_cons, List.length_nil, Option.some.injEq, Prod.mk.injEq] at hinf'
        obtain ⟨-, rfl⟩ := hinf'
        have ho := hs.obj k
        rw [hk] at ho
        obtain ⟨vf, hv⟩ := obj_arr ho (i := 0) rfl 0
        obtain ⟨hc, _, hrep, _⟩ := hv 0 _ rfl
        have e0 : vf 0 = .int .u8 n := by
          generalize vf 0 = z at hrep
          cases hrep; rfl
        rw [e0] at hc
        refine ⟨_, _, h, .val _, fun w' hw' => ?_⟩
        have ha := (hD w' hw').2 k rfl
        have hb := run_convert_bytes_back (P := P) w' src dst ts.elem ⟨ρ k, 0, none⟩ cap [UInt8.ofNat n.toNat] ((hT src ts hts).slice h1) (by rw [(hT ts.elem te hte).int h3, h4]) ((hT dst ti hti).string h2) (fun j hj => by
          have e : j = 0 := by simpa using hj
          subst e
          have e2 : n.toNat % 256 = n.toNat := Nat.mod_eq_of_lt (by omega)
          have e3 : (n.toNat : Int) = n := by omega
          have hcell : w'.cell? ⟨ρ k, 0, none⟩ = some (.int .u8 n) := by
            rw [← hc]
            simpa using World.cell?_of_block (w := w) ha
          simpa [Addr.add, UInt8.toNat_ofNat', e2, e3] using hcell)
        simpa using hb
theorem icells_get {l : List Int} {i : Nat} {e : List AV} : (icells l)[i]? = some e ↔ ∃ x, l[i]? = some x ∧ e = [I x] := by
  simp only [icells, List.getElem?_map, Option.map_eq_some_iff]
  constructor
  · rintro ⟨x, h1, h2⟩; exact ⟨x, h1, h2.symm⟩
  · rintro ⟨x, h1, h2⟩; exact ⟨x, h1, h2.symm⟩
theorem repO_iarr {c : Ctx} {k : Nat} {l : List Int} : RepO c k (.iarr l) ↔ RepO c k (.arr 1 (icells l)) := by
  have hl : (icells l).length = l.length := by simp [icells]
  constructor
  · rintro ⟨vs, T, h1, h2, h3, h4⟩
    exact ⟨vs, T, h1, by rw [hl]; exact h2, h3, fun i e hi => by obtain ⟨x, _, rfl⟩ := icells_get.1 hi; rfl, h4⟩
  · rintro ⟨vs, T, h1, h2, h3, _, h4⟩
    exact ⟨vs, T, h1, by rw [hl] at h2; exact h2, h3, h4⟩

theorem loadA_sound (hs : SatW E H F w ρ A) (hT : TOk P T) {t : TypeId} {x : AV} {u : Value} (h : loadA T H F t x K) (hx : RepV (ctxOf E H w ρ A) x u) (hD : ∀ w', D w' → Ag (ctxOf E H w ρ A) (refOf x) w') : Yields P (ctxOf E H w ρ A) D (Instr.loadAt t u) K := by
  unfold loadA at h
  split at h
  case h_2 => exact h.elim
  case h_1 ti ht =>
    have hl : ∀ (ad : Addr), Instr.loadAt t (.pointer (some ad)) = loadVar t ad := fun ad => rfl
    split at h
    case h_6 => exact h.elim
    case h_1 cs =>
      cases hx with
      | ro cs b off vf hok hc hh =>
        rw [hl]
        exact pieceA_sound hT ht h (fun w' hw => (hD w' hw).1 b hok) fun j a hj => ⟨(hc j a hj).1, (hc j a hj).2.2, hh j a hj⟩
    case h_2 k off =>
      cases hx with
      | ptr k off cs' hk =>
        split at h
        case h_2 => exact h.elim
        case h_1 cs hk' =>
          have ho := hs.obj k
          rw [hk'] at ho
          obtain ⟨vf, hv⟩ := obj_cells ho off
          rw [hl]
          exact pieceA_sound hT ht h (fun w' hw => (hD w' hw).2 k rfl) hv
    case h_3 k i off =>
      cases hx with
      | el k i off sz n hk hi =>
        have hk : (H k).info = some (sz, n) := hk
        rw [hl]
        split at h
        case h_3 => exact h.elim
        case h_1 l hl' =>
          have ho := hs.obj k
          rw [hl', repO_iarr] at ho
          rw [hl'] at hk
          simp only [AO.info, Option.some.injEq, Prod.mk.injEq] at hk
          obtain ⟨rfl, rfl⟩ := hk
          obtain ⟨rfl, hagg, h⟩ := h
          have hx := h l[i] (List.getElem?_eq_getElem hi)
          obtain ⟨vf, hv⟩ := obj_arr ho (icells_get.2 ⟨l[i], List.getElem?_eq_getElem hi, rfl⟩) 0
          refine pieceA_sound hT ht (cs := [I l[i]]) ?_ (fun w' hw => (hD w' hw).2 k rfl) fun j a hj => ⟨(hv j a hj).1, (hv j a hj).2.1, (hv j a hj).2.2.1⟩
          unfold pieceA
          rw [if_neg (by rw [hagg]; simp)]
          exact hx
        case h_2 sz' l hl' =>
          have ho := hs.obj k
          rw [hl'] at ho hk
          simp only [AO.info, Option.some.injEq, Prod.mk.injEq] at hk
          obtain ⟨rfl, rfl⟩ := hk
          obtain ⟨vf, hv⟩ := obj_arr ho (List.getElem?_eq_getElem hi) off
          exact pieceA_sound hT ht (h _ (List.getElem?_eq_getElem hi)) (fun w' hw => (hD w' hw).2 k rfl) fun j a hj => ⟨(hv j a hj).1, (hv j a hj).2.1, (hv j a hj).2.2.1⟩
    case h_4 g i off =>
      cases hx with
      | rp g i off =>
        obtain ⟨cs, ⟨fam, hf, hi⟩, h⟩ := h
        have hr := hs.fam g fam hf
        obtain ⟨hok, vf, hv⟩ := hr.1 i cs hi
        rw [hl]
        refine pieceA_sound hT ht h (fun w' hw => (hD w' hw).1 _ hok) (vf := fun j => vf (off + j)) fun j a hj => ?_
        rw [List.getElem?_drop] at hj
        obtain ⟨h1, h2, h3, h4⟩ := hv _ a hj
        exact ⟨h1, h3, h4⟩
    case h_5 g off =>
      cases hx
      obtain ⟨cs, hcs, h⟩ := h
      · obtain ⟨f, fam, hf, hp, h0⟩ := pinOf_out hcs
        have hr := hs.fam f fam hf
        obtain ⟨hok, vf, hv⟩ := hr.1 0 cs h0
        have hg : A.at_ f 0 = g := (hr.2.2.1 g hp).1
        simp only [hg] at hok hv
        rw [hl]
        refine pieceA_sound hT ht h (fun w' hw => (hD w' hw).1 _ hok) (vf := fun j => vf (off + j)) fun j a hj => ?_
        rw [List.getElem?_drop] at hj
        obtain ⟨h1, h2, h3, h4⟩ := hv _ a hj
        exact ⟨h1, h3, h4⟩

theorem size_of (hT : TOk P T) {t : TypeId} {ti : TI} (ht : T t = some ti) (w : World) : (sizeOf t).run P w = .ok ti.size w := by
  obtain ⟨i, z, hi, hs, _⟩ := (hT t ti ht).info
  simp [sizeOf, typeInfo, hi, hs]

theorem run_indexAt_sl {t e : TypeId} (hu : P.underlying t = some (.slice e)) {sz : Nat} {w : World} (hs : (sizeOf e).run P w = .ok sz w) {b off len cap : Nat} {k : IntKind} {n : Int} (h0 : 0 ≤ n) (h1 : n < len) :
    (Instr.indexAt t (.slice (some ⟨b, off, none⟩) len cap) (.int k n)).run P w = .ok (.pointer (some ⟨b, off + n.toNat * sz, none⟩)) w := by
  simp [Instr.indexAt, run_underlying hu, asIntOf, h0, h1, hs, add_none]

theorem run_indexAt_arr {t e : TypeId} {m : Nat} (hu : P.underlying t = some (.array m e)) {sz : Nat} {w : World} (hs : (sizeOf e).run P w = .ok sz w) {b off : Nat} {k : IntKind} {n : Int} (h0 : 0 ≤ n) (h1 : n < m) :
    (Instr.indexAt t (.pointer (some ⟨b, off, none⟩)) (.int k n)).run P w = .ok (.pointer (some ⟨b, off + n.toNat * sz, none⟩)) w := by
  simp [Instr.indexAt, run_underlying hu, asIntOf, Instr.sureAddr, h0, h1, hs, add_none]

theorem indexA_sound {H : Nat → AO} (hT : TOk P T) {t : TypeId} {x i : AV} {u v : Value} (h : indexA T H t x i K) (hx : RepV (ctxOf E H w ρ A) x u) (hi : RepV (ctxOf E H w ρ A) i v) :
    Yields P (ctxOf E H w ρ A) D (Instr.indexAt t u v) K := by
  unfold indexA at h
  split at h
  case h_2 => exact h.elim
  case h_1 ti k n ht =>
    have ty := hT t ti ht
    cases hi
    split at h
    case h_11 => exact h.elim
    case h_10 g off =>
      obtain ⟨h1, h0, hn, te, hte, h⟩ := h
      cases hx
      exact ⟨_, _, h, .val _, fun w' _ => run_indexAt_arr (ty.array h1) (size_of hT hte w') h0 hn⟩
    case h_1 l =>
      obtain ⟨h1, h0, hn, ⟨te, hte, hsz⟩, h⟩ := h
      have hlt : n.toNat < l.length := by omega
      have h := h _ (List.getElem?_eq_getElem hlt)
      have hs1 : ∀ w' : World, (sizeOf ti.elem).run P w' = .ok 1 w' := fun w' => by rw [size_of hT hte, hsz]
      cases hx with
      | ints l v h' =>
        have hl : (icells l).length = l.length := by simp [icells]
        have hg : (icells l)[n.toNat]? = some [I l[n.toNat]] := icells_get.2 ⟨_, List.getElem?_eq_getElem hlt, rfl⟩
        revert hl hg h'
        generalize icells l = cs
        intro h' hl hg
        cases h' with
        | sl0 => simp at hg
        | sl sz cs b off cap vf hok hcap hl' hc hh =>
          refine ⟨_, _, h, ?_, fun w' _ => run_indexAt_sl (ty.slice h1) (hs1 w') h0 (by rw [hl]; exact hn)⟩
          refine .ro _ b _ (fun j => vf n.toNat j) (.inl hok) (fun j a hj => hc _ _ j a hg hj) (fun j a hj => hh _ _ j a hg hj)
    case h_2 l =>
      obtain ⟨h1, h0, hn, ⟨te, hte, hsz⟩, h⟩ := h
      have hlt : n.toNat < l.length := by omega
      have h := h _ (List.getElem?_eq_getElem hlt) (UInt8.toNat_lt _)
      have hs1 : ∀ w' : World, (sizeOf ti.elem).run P w' = .ok 1 w' := fun w' => by rw [size_of hT hte, hsz]
      cases hx with
      | bytes0 => simp at hlt
      | bytes l b off cap hz hcap hc =>
        refine ⟨_, _, h, ?_, fun w' _ => run_indexAt_sl (ty.slice h1) (hs1 w') h0 hn⟩
        refine .ro _ b _ (fun _ => .int .u8 l[n.toNat].toNat) (.inr hz) (fun j a hj => ?_) (fun j a hj => ?_)
        · cases j with
          | zero =>
            simp at hj
            subst hj
            exact ⟨by simpa using hc _ _ (List.getElem?_eq_getElem hlt), rfl, rfl⟩
          | succ j => simp at hj
        · cases j with
          | zero => simp at hj; subst hj; exact .val _
          | succ j => simp at hj
    case h_3 sz l =>
      obtain ⟨h1, h0, hn, ⟨te, hte, hsz⟩, h⟩ := h
      have hlt : n.toNat < l.length := by omega
      have h := h _ (List.getElem?_eq_getElem hlt)
      have hs1 : ∀ w' : World, (sizeOf ti.elem).run P w' = .ok sz w' := fun w' => by rw [size_of hT hte, hsz]
      cases hx with
      | sl0 => simp at hlt
      | sl sz l b off cap vf hok hcap hl' hc hh =>
        refine ⟨_, _, h, ?_, fun w' _ => run_indexAt_sl (ty.slice h1) (hs1 w') h0 hn⟩
        exact .ro _ b _ (fun j => vf n.toNat j) (.inl hok) (fun j a hj => hc _ _ j a (List.getElem?_eq_getElem hlt) hj) (fun j a hj => hh _ _ j a (List.getElem?_eq_getElem hlt) hj)
    case h_4 sz l =>
      obtain ⟨h1, h0, hn, ⟨te, hte, hsz⟩, h⟩ := h
      have hlt : n.toNat < l.length := by omega
      have h := h _ (List.getElem?_eq_getElem hlt)
      have hs1 : ∀ w' : World, (sizeOf ti.elem).run P w' = .ok sz w' := fun w' => by rw [size_of hT hte, hsz]
      cases hx with
      | zsl0 => simp at hlt
      | zsl sz l b off cap vf hz hcap hl' hc hh =>
        refine ⟨_, _, h, ?_, fun w' _ => run_indexAt_sl (ty.slice h1) (hs1 w') h0 hn⟩
        exact .ro _ b _ (fun j => vf n.toNat j) (.inr hz) (fun j a hj => let q := hc _ _ j a (List.getElem?_eq_getElem hlt) hj; ⟨q.1, pureB_of_zB q.2.1, q.2.2⟩) (fun j a hj => hh _ _ j a (List.getElem?_eq_getElem hlt) hj)
    case h_5 k' =>
      obtain ⟨h1, h0, hn, h⟩ := h
      cases hx with
      | own k' sz m cap hk hcap hr =>
        have hk' : (H k').info = some (sz, m) := hk
        rw [hk'] at hn
        obtain ⟨hn, te, hte, hsz⟩ := hn
        have hs1 : ∀ w' : World, (sizeOf ti.elem).run P w' = .ok sz w' := fun w' => by rw [size_of hT hte, hsz]
        refine ⟨_, _, h, .el k' n.toNat 0 sz m hk (by omega), fun w' _ => ?_⟩
        have := run_indexAt_sl (b := ρ k') (off := 0) (len := m) (cap := cap) (k := k) (ty.slice h1) (hs1 w') h0 (by omega)
        simp only [Nat.zero_add] at this
        simpa using this
    case h_6 k' lo hi =>
      obtain ⟨h1, h0, hn, h⟩ := h
      cases hx with
      | sub k' sz m lo hi o cap hk h2 h3 hcap hr ho =>
        have hk' : (H k').info = some (sz, m) := hk
        rw [hk'] at hn
        obtain ⟨hn, te, hte, hsz⟩ := hn
        have hs1 : ∀ w' : World, (sizeOf ti.elem).run P w' = .ok sz w' := fun w' => by rw [size_of hT hte, hsz]
        have ho' : o = lo * sz := by rcases ho with ho | ho <;> omega
        subst ho'
        refine ⟨_, _, h, .el k' (lo + n.toNat) 0 sz m hk (by omega), fun w' _ => ?_⟩
        have := run_indexAt_sl (b := ρ k') (off := lo * sz) (len := hi - lo) (cap := cap) (k := k) (ty.slice h1) (hs1 w') h0 hn
        rw [Nat.add_mul]
        simpa using this
    case h_7 k' off =>
      obtain ⟨h1, h0, hn, te, hte, h⟩ := h
      cases hx with
      | ptr k' off cs hk => exact ⟨_, _, h, .ptr k' _ cs hk, fun w' _ => run_indexAt_arr (ty.array h1) (size_of hT hte w') h0 hn⟩
    case h_8 g j off =>
      obtain ⟨h1, h0, hn, te, hte, h⟩ := h
      cases hx with
      | rp g j off hf => exact ⟨_, _, h, .rp g j _ hf, fun w' _ => run_indexAt_arr (ty.array h1) (size_of hT hte w') h0 hn⟩
    case h_9 cs =>
      obtain ⟨h1, h0, hn, te, hte, h⟩ := h
      cases hx with
      | ro cs b off vf hok hc hh =>
        refine ⟨_, _, h, .ro _ b (off + n.toNat * te.size) (fun j => vf (n.toNat * te.size + j)) hok (fun j a hj => ?_) (fun j a hj => ?_), fun w' _ => run_indexAt_arr (ty.array h1) (size_of hT hte w') h0 hn⟩
        · rw [List.getElem?_drop] at hj
          rw [Nat.add_assoc]; exact hc _ a hj
        · rw [List.getElem?_drop] at hj
          exact hh _ a hj

theorem valA_sound (hs : SatW E H F w ρ A) (hT : TOk P T) {o : Oper} {EV : Operand → AV} {a : Act} (hev : ∀ x, RepV (ctxOf E H w ρ A) (EV x) (a.eval x)) (h : valA T H F o.op (o.op.operands.toList.map EV) K) :
    ∃ v x, K x ∧ RepV (ctxOf E H w ρ A) x v ∧ ∀ w', Ag (ctxOf E H w ρ A) (readsOf o.op (o.op.operands.toList.map EV)) w' → (execOp a.eval o).run P w' = .ok (.value v) w' := by
  have fin : ∀ {s : Sem Value} {D : World → Prop}, Yields P (ctxOf E H w ρ A) D s K → execOp a.eval o = (do pure (.value (← s))) → ∃ v x, K x ∧ RepV (ctxOf E H w ρ A) x v ∧ ∀ w', D w' → (execOp a.eval o).run P w' = .ok (.value v) w' := by
    rintro s D ⟨v, x, hK, hr, hrun⟩ he
    refine ⟨v, x, hK, hr, fun w' hw => ?_⟩
    rw [he, Sem.run_bind, hrun w' hw]
    rfl
  cases hop : o.op <;> rw [hop] at h <;> simp only [Op.operands, List.map_cons, List.map_nil] at h <;> try exact h.elim
  case move x => exact ⟨_, _, h, hev x, fun w' _ => by simp [execOp, hop]⟩
  case assign x => exact ⟨_, _, h, hev x, fun w' _ => by simp [execOp, hop]⟩
  case pick c x y =>
    have hc := hev c
    generalize hEc : EV c = ec at h hc
    cases ec <;> simp only [valA] at h
    rename_i vc
    cases vc <;> simp only [] at h
    rename_i b
    have hcv : a.eval c = .bool b := by
      generalize a.eval c = v at hc
      cases hc; rfl
    have h := brK_out h
    cases b with
    | true => exact ⟨_, _, h.1 rfl, hev x, fun w' _ => by simp [execOp, hop, hcv, asBool]⟩
    | false => exact ⟨_, _, h.2 rfl, hev y, fun w' _ => by simp [execOp, hop, hcv, asBool]⟩
  case load t x => exact fin (loadA_sound hs hT h (hev x) fun _ h => h) (by simp [execOp, hop])
  case nilCheck x =>
    have hx := hev x
    simp only [valA] at h
    generalize EV x = ex at h hx
    split at h
    case h_5 => exact h.elim
    all_goals
      generalize hv : a.eval x = v at hx
      cases hx
      exact ⟨_, _, h, by first | exact .ptr _ _ _ ‹_› | exact .el _ _ _ _ _ ‹_› ‹_› | exact .ro _ _ _ _ ‹_› ‹_› ‹_› | exact .rp _ _ _ ‹_›, fun w' _ => by simp [execOp, hop, hv]⟩
  case binOp b t x y u =>
    have hx := hev x
    have hy := hev y
    simp only [valA] at h
    split at h
    case h_3 => exact fin (binC_sound (ox := x) (oy := y) hT h hx hy) (by simp [execOp, hop])
    case h_2 xs ys e1 e2 =>
      rw [e1] at hx
      rw [e2] at hy
      exact fin (eqS_sound (ox := x) (oy := y) hT h hx hy) (by simp [execOp, hop])
    case h_1 f i o f' i' o' e1 e2 =>
      rw [e1] at hx
      rw [e2] at hy
      exact fin (rpEq_sound (ox := x) (oy := y) hs hT h hx hy fun w' hw b hb => hw.1 b hb) (by simp [execOp, hop])
  case index t x i => exact fin (strA_sound hT h (hev x) (hev i)) (by simp [execOp, hop])
  case typeAssert x xt s ok => exact fin (assertA_sound (xt := xt) hT h (hev x)) (by simp [execOp, hop])
  case makeInterface t x =>
    have hx := hev x
    simp only [valA] at h
    split at h
    case h_2 => exact h.elim
    case h_1 ti ht =>
      split at h
      case h_2 =>
        obtain ⟨hk, hp, h⟩ := h
        obtain ⟨fs, hu, _, _⟩ := (hT t ti ht).struct hk
        exact ⟨.iface t (a.eval x), _, h, .iface t _ _ hp hx, fun w' _ => by simp [execOp, hop, Instr.makeInterface, run_underlying hu]⟩
      case h_1 k off heq =>
        obtain ⟨hk, h⟩ := h
        have hu := (hT t ti ht).ptr hk
        rw [heq] at hx
        generalize hv : a.eval x = v at hx
        cases hx with
        | ptr _ _ cs hc => exact ⟨_, _, h, .ifp t k off cs hc, fun w' _ => by simp [execOp, hop, hv, Instr.makeInterface, run_underlying hu]⟩
  case unOp b t x => exact fin (unA_sound h (hev x)) (by simp [execOp, hop])
  case convert src dst x => exact fin (convB_sound hs hT h (hev x) fun _ h => h) (by simp [execOp, hop])
  case fieldAddr t x f => exact fin (fieldAddrA_sound hT h (hev x)) (by simp [execOp, hop])
  case indexAddr t x i => exact fin (indexA_sound hT h (hev x) (hev i)) (by simp [execOp, hop])
  case extract x i =>
    have hx := hev x
    generalize EV x = ex at h hx
    cases ex <;> simp only [valA] at h
    rename_i cs
    generalize hv : a.eval x = v at hx
    cases hx with
    | tup _ vs hl _ hh =>
      split at h
      case h_2 => exact h.elim
      case h_1 c hc =>
        have hlt : i < vs.length := by rw [hl]; exact (List.getElem?_eq_some_iff.1 hc).1
        refine ⟨vs[i], c, h, hh i c _ hc (List.getElem?_eq_getElem hlt), fun w' _ => ?_⟩
        simp [execOp, hop, hv, Instr.extract, hlt]
  all_goals (simp only [valA] at h)
end Go.Vc
