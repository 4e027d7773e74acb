/-
Regions that draw their order: what only reads is looked at first, what writes in the orders that can come.
The table of types, read off a program, and when it holds.
What the proofs of single functions use: tables of contracts, states by their slots.
No conditions.
-/
import Derived.Test.YtalbgcpfekmfoaaVcME
import Derived.Orders
namespace Go.Vc
variable {P : Program} {T : TT} {C : CT} {E : Entry} {w : World} {ρ : Nat → Nat} {A : FA} {s : LS} {a : Act} {o : Oper} {n0 : Nat} {Q : Exit → Act → World → Prop} {ops : Array Oper} {md : Region.Mode} {pk tl : List Nat}

/-- The blocks that stay as they are. -/
def Prot (E : Entry) (s : LS) (w : World) (ρ : Nat → Nat) (pk : List Nat) (b : Nat) : Prop := okOf E (listH s.H) w ρ b ∨ E.Z b ∨ ∃ k ∈ pk, alive (listH s.H) k ∧ ρ k = b
def PrSame (Pr : Nat → Prop) (w w' : World) : Prop := ∀ b, Pr b → w'.heap[b]? = w.heap[b]?

theorem prot_step {s' : LS} {w' : World} {ρ' : Nat → Nat} (hs : SatL E s a w ρ A) (hf : Fr (listH s.H) ρ w (fun k => k ∉ pk) (listH s'.H) ρ' w') :
    (∀ b, Prot E s w ρ pk b → Prot E s' w' ρ' pk b) ∧ PrSame (Prot E s w ρ pk) w w' := by
  have key : ∀ b, okOf E (listH s.H) w ρ b → okOf E (listH s'.H) w' ρ' b := by
    intro b hb
    have hlt := hs.toSatW.ok_lt hb
    have hw := hf.same b hlt fun k ha _ => hs.toSatW.ok_ne hb ha
    rcases hb with hb | ⟨h1, h2, h3, h4⟩
    · exact .inl hb
    · refine .inr ⟨h1, Nat.lt_of_lt_of_le h2 hf.size, fun k hk => ?_, h4.same hw⟩
      rcases hf.src k hk with ⟨h4, h5⟩ | h4
      · rw [h5]; exact h3 k h4
      · omega
  refine ⟨fun b hb => ?_, fun b hb => ?_⟩
  · rcases hb with hb | hb | ⟨k, hk, ha, he⟩
    · exact .inl (key b hb)
    · exact .inr (.inl hb)
    · obtain ⟨h1, h2⟩ := hf.keep k ha (by simpa using hk)
      exact .inr (.inr ⟨k, hk, h1, h2.trans he⟩)
  · rcases hb with hb | hb | ⟨k, hk, ha, he⟩
    · exact hf.same b (hs.toSatW.ok_lt hb) fun k ha _ => hs.toSatW.ok_ne hb ha
    · exact hf.same b (hs.toSatW.z_lt hb) fun k ha _ => hs.toSatW.z_ne hb ha
    · refine hf.same b (by rw [← he]; exact (hs.place k ha).1) fun k' ha' hn e => ?_
      have := hs.inj k' k ha' ha (e.trans he.symm)
      subst this
      exact hn hk

/-- Whatever order is picked from here on; what is not of the tail leaves the blocks of Pr alone. -/
def wpAnyP (P : Program) (md : Region.Mode) (ops : Array Oper) (Pr : Nat → Prop) (tl : List Nat) (Q : Exit → Act → World → Prop) : Nat → Array Bool → Act → World → Prop
  | 0, listed, a, w => Region.ready md ops listed = [] ∧ Q .normal a w
  | fuel + 1, listed, a, w =>
    (Region.ready md ops listed = [] → Q .normal a w) ∧
    ∀ i ∈ Region.ready md ops listed, wpOp P ops Q i (fun a' w' => wpAnyP P md ops Pr tl Q fuel (listed.setIfInBounds i true) a' w' ∧ (i ∉ tl → PrSame Pr w w')) a w

theorem wpAny_of_P {Pr : Nat → Prop} : ∀ {fuel : Nat} {listed : Array Bool} {a : Act} {w : World}, wpAnyP P md ops Pr tl Q fuel listed a w → wpAny P md ops Q fuel listed a w
  | 0, _, _, _, h => h
  | _ + 1, _, _, _, h => ⟨h.1, fun i hi => wpOp_mono (fun _ _ h => wpAny_of_P h.1) (h.2 i hi)⟩
theorem wpAnyP_mono {Pr Pr' : Nat → Prop} (hp : ∀ b, Pr b → Pr' b) : ∀ {fuel : Nat} {listed : Array Bool} {a : Act} {w : World}, wpAnyP P md ops Pr' tl Q fuel listed a w → wpAnyP P md ops Pr tl Q fuel listed a w
  | 0, _, _, _, h => h
  | _ + 1, _, _, _, h => ⟨h.1, fun i hi => wpOp_mono (fun _ _ h => ⟨wpAnyP_mono hp h.1, fun ht b hb => h.2 ht b (hp b hb)⟩) (h.2 i hi)⟩

/-- In every world that is the same in the blocks of Pr the operation comes to v. -/
def YieldsP (P : Program) (ops : Array Oper) (Pr : Nat → Prop) (w₀ : World) (o : Oper) (v : Value) (a : Act) : Prop :=
  (Region.wanted o (yielded ops a.tmps) = true ∧ ∀ w', PrSame Pr w₀ w' → (execOp a.eval o).run P w' = .ok (.value v) w') ∨ (Region.wanted o (yielded ops a.tmps) = false ∧ v = undef)

theorem YieldsP.wpOp {Pr : Nat → Prop} {w₀ : World} {i : Nat} {v : Value} (hi : ops[i]? = some o) (hy : YieldsP P ops Pr w₀ o v a) (hw0 : PrSame Pr w₀ w) {K : Act → World → Prop} (h : K (a.put o.dst v) w) : Go.wpOp P ops Q i K a w := by
  unfold Go.wpOp
  simp only [hi]
  rcases hy with ⟨hw, hv⟩ | ⟨hw, rfl⟩
  · rw [if_pos hw]
    refine .inl ?_
    unfold Oper.wp
    rw [hv w hw0]
    exact h
  · rw [if_neg (by rw [hw]; simp)]
    exact h
theorem YieldsP.of_same {Pr : Nat → Prop} {w₀ : World} {v : Value} {a' : Act} (hy : YieldsP P ops Pr w₀ o v a) (he : execOp a'.eval o = execOp a.eval o) (hw : Region.wanted o (yielded ops a'.tmps) = Region.wanted o (yielded ops a.tmps)) : YieldsP P ops Pr w₀ o v a' := by
  unfold YieldsP at *
  rw [he, hw]
  exact hy

/-- An operation apart from one that yields: each makes no difference to the other. -/
theorem wpOp_putP {Pr : Nat → Prop} {w₀ : World} {j : Nat} {oi oj : Oper} {v : Value} (hj : ops[j]? = some oj) (hap : oi.apart ops oj = true) (hsi : ∀ cs b, oi.op ≠ .select cs b) (hsj : ∀ cs b, oj.op ≠ .select cs b)
    (hQ : ∀ c a w, ¬ Q (.panic c) a w) (hL : ¬ LetsOut Q) {K : Act → World → Prop} (hy : YieldsP P ops Pr w₀ oi v a) (h : wpOp P ops Q j K (a.put oi.dst v) w) :
    wpOp P ops Q j (fun a' w' => YieldsP P ops Pr w₀ oi v a' ∧ K (a'.put oi.dst v) w') a w := by
  obtain ⟨h1, h2, h3⟩ := Oper.apart_spec hap
  have keep : ∀ (a : Act), YieldsP P ops Pr w₀ oi v a → ∀ u, YieldsP P ops Pr w₀ oi v (a.put oj.dst u) := fun a hy u =>
    hy.of_same (execOp_put oi hsi a oj.dst u h3) (wanted_put oi a oj.dst u h3)
  have swap : ∀ (a : Act) (u : Value) (w' : World), K ((a.put oi.dst v).put oj.dst u) w' → K ((a.put oj.dst u).put oi.dst v) w' := fun a u w' hk => by rw [← Act.put_comm a v u h2]; exact hk
  unfold wpOp at *
  simp only [hj] at *
  rw [wanted_put oj a oi.dst v h1] at h
  by_cases hw : Region.wanted oj (yielded ops a.tmps) = true
  · rw [if_pos hw] at h ⊢
    rcases h with h | ⟨_, h⟩
    case inr => exact absurd h hL
    refine .inl ?_
    unfold Oper.wp at *
    rw [execOp_put oj hsj a oi.dst v h1] at h
    generalize (execOp a.eval oj).run P w = r at *
    cases r with
    | ok n w' =>
      cases n <;> simp only [Oper.upon] at h ⊢
      case value u => exact ⟨keep a hy u, swap a u w' h⟩
      case skip => exact ⟨keep a hy _, swap a _ w' h⟩
      case defer d =>
        refine ⟨keep { a with defers := d :: a.defers } (hy.of_same rfl rfl) undef, swap { a with defers := d :: a.defers } undef w' ?_⟩
        rw [← Act.put_defers]
        exact h
      case enter f args =>
        refine Calls.mono h fun e w'' he => ?_
        cases e with
        | returned u => exact ⟨keep a hy u, swap a u w'' he⟩
        | panicked c => exact absurd he (hQ _ _ _)
        | outgrown => exact he
      case row row args => exact Rows.mono h fun u w'' he => ⟨keep a hy u, swap a u w'' he⟩
    | halt x w' =>
      cases x <;> simp only [Oper.upon] at h ⊢
      case panic u => exact absurd h (hQ _ _ _)
  · rw [if_neg hw] at h ⊢
    exact ⟨keep a hy _, swap a _ w h⟩

/-- What is listed came behind what it waits for. -/
def Closed (ops : Array Oper) (md : Region.Mode) (listed : Array Bool) : Prop := ∀ k ok, ops[k]? = some ok → listed.getD k true = true → ∀ e ∈ ok.after, Region.binds md e = true → listed.getD e.on false = true
theorem Closed.add {listed : Array Bool} (h : Closed ops md listed) {j : Nat} (hj : j ∈ Region.ready md ops listed) : Closed ops md (listed.setIfInBounds j true) := by
  intro k ok hk hl e he hb
  by_cases hjk : j = k
  · subst hjk
    obtain ⟨_, o, ho, hall⟩ := mem_ready.1 hj
    rw [hk] at ho
    cases ho
    exact getD_set_true (hall e he hb)
  · rw [getD_set_ne true hjk] at hl
    exact getD_set_true (h k ok hk hl e he hb)
def depT (ops : Array Oper) : Nat → Nat → Nat → Bool
  | 0, _, _ => false
  | n + 1, j, i => match ops[j]? with
    | some o => o.after.toList.any fun e => Region.binds .any e && (e.on == i || depT ops n e.on i)
    | none => false
theorem depT_listed {listed : Array Bool} (hc : Closed ops .any listed) {i : Nat} : ∀ (n j : Nat), depT ops n j i = true → (∀ o, ops[j]? = some o → ∀ e ∈ o.after, Region.binds .any e = true → listed.getD e.on false = true) → listed.getD i false = true
  | 0, _, h, _ => by simp [depT] at h
  | n + 1, j, h, hj => by
    unfold depT at h
    split at h
    · rename_i o ho
      obtain ⟨e, he, hb⟩ := List.any_eq_true.1 h
      simp only [Bool.and_eq_true, Bool.or_eq_true, beq_iff_eq] at hb
      have hl := hj o ho e (by simpa using he) hb.1
      rcases hb.2 with h1 | h1
      · rw [← h1]; exact hl
      · refine depT_listed hc n e.on h1 fun o' ho' => hc e.on o' ho' ?_
        rcases Nat.lt_or_ge e.on listed.size with h' | h'
        · simp [h'] at hl ⊢; exact hl
        · simp [Array.getElem?_eq_none h'] at hl
    · cases h
theorem wpAnyP_first {Pr Pr0 : Nat → Prop} {w₀ : World} {i : Nat} {oi : Oper} {v : Value} (hi : ops[i]? = some oi) (hsel : ∀ (j : Nat) (o : Oper) cs b, ops[j]? = some o → o.op ≠ .select cs b)
    (hQ : ∀ c a w, ¬ Q (.panic c) a w) (hL : ¬ LetsOut Q) (htl : (Pr0 = Pr ∧ ∀ j ∈ tl, depT ops ops.size j i = true) ∨ ∀ b, ¬ Pr0 b) :
    ∀ (fuel : Nat) (listed : Array Bool) (a : Act) (w : World), Closed ops .any listed →
      (∀ j oj, ops[j]? = some oj → j ≠ i → listed.getD j true = false → (∀ e ∈ oj.after, Region.binds .any e = true → e.on ≠ i) → oi.apart ops oj = true) →
      i ∈ Region.ready .any ops listed → PrSame Pr0 w₀ w → YieldsP P ops Pr0 w₀ oi v a →
      wpAnyP P .any ops Pr tl Q fuel (listed.setIfInBounds i true) (a.put oi.dst v) w → wpAnyP P .any ops Pr tl Q (fuel + 1) listed a w := by
  intro fuel
  induction fuel with
  | zero =>
    intro listed a w hcl hfree hr hw0 hy H
    refine ⟨fun h => (by rw [h] at hr; cases hr), fun j hj => ?_⟩
    by_cases hji : j = i
    · subst hji; exact hy.wpOp hi hw0 ⟨H, fun _ _ _ => rfl⟩
    · have := ready_mono hj hji
      rw [H.1] at this
      cases this
  | succ fuel ih =>
    intro listed a w hcl hfree hr hw0 hy H
    refine ⟨fun h => (by rw [h] at hr; cases hr), fun j hj => ?_⟩
    by_cases hji : j = i
    · subst hji; exact hy.wpOp hi hw0 ⟨H, fun _ _ _ => rfl⟩
    · have h1 := H.2 j (ready_mono hj hji)
      obtain ⟨hjun, oj, hoj, hall⟩ := mem_ready.1 hj
      have hnot : ∀ e ∈ oj.after, Region.binds .any e = true → e.on ≠ i := fun e he hb heq => by
        have h1 := hall e he hb
        have h0 := (mem_ready.1 hr).1
        rw [heq] at h1
        rcases Nat.lt_or_ge i listed.size with h' | h'
        · simp [h'] at h0 h1; rw [h0] at h1; cases h1
        · simp [Array.getElem?_eq_none h'] at h1
      have hjtl : Pr0 = Pr → (∀ j ∈ tl, depT ops ops.size j i = true) → j ∉ tl := fun _ htl hm => by
        have h1 := depT_listed hcl _ j (htl j hm) fun o ho e he hb => by
          rw [hoj] at ho
          cases ho
          exact hall e he hb
        have h0 := (mem_ready.1 hr).1
        rcases Nat.lt_or_ge i listed.size with h' | h'
        · simp [h'] at h0 h1; rw [h0] at h1; cases h1
        · simp [Array.getElem?_eq_none h'] at h1
      have h2 := wpOp_putP hoj (hfree j oj hoj hji hjun hnot) (fun cs b => hsel i oi cs b hi) (fun cs b => hsel j oj cs b hoj) hQ hL hy h1
      have hfree' : ∀ k ok, ops[k]? = some ok → k ≠ i → (listed.setIfInBounds j true).getD k true = false →
          (∀ e ∈ ok.after, Region.binds .any e = true → e.on ≠ i) → oi.apart ops ok = true := fun k ok hk hki hun hno => by
        refine hfree k ok hk hki ?_ hno
        by_cases hjk : j = k
        · subst hjk; exact hjun
        · rw [getD_set_ne true hjk] at hun; exact hun
      refine wpOp_mono (fun a' w' h3 => ?_) h2
      have hsame : PrSame Pr0 w w' := by
        rcases htl with ⟨e, htl⟩ | hno
        · rw [e]; exact h3.2.2 (hjtl e htl)
        · exact fun b hb => absurd hb (hno b)
      refine ⟨ih (listed.setIfInBounds j true) a' w' (hcl.add hj) hfree' (ready_mono hr (Ne.symm hji)) (fun b hb => (hsame b hb).trans (hw0 b hb)) h3.1 ?_, h3.2.2⟩
      rw [Array.setIfInBounds_comm _ _ hji]
      exact h3.2.1

/-- Only the tail is still to come. -/
def tailB (tl : List Nat) : Plan → Bool
  | .done => true
  | .run i p => tl.contains i && tailB tl p
  | _ => false
/-- The operation only moves a slot. -/
def isMove (ops : Array Oper) (i : Nat) : Bool := match ops[i]? with
  | some o => match o.op with
    | .move _ | .assign _ => true
    | _ => false
  | none => false
def planOk (tl : List Nat) (ops : Array Oper) : Nat → Array Bool → Plan → Bool
  | _, listed, .done => (Region.ready .any ops listed).isEmpty
  | fuel + 1, listed, .take i p => !tl.contains i && (Region.ready .any ops listed).contains i && Region.free .any ops listed i && (isMove ops i || tl.all (fun j => depT ops ops.size j i)) && planOk tl ops fuel (listed.setIfInBounds i true) p
  | fuel + 1, listed, .run i p => Region.ready .any ops listed == [i] && (!tl.contains i || tailB tl p) && planOk tl ops fuel (listed.setIfInBounds i true) p
  | fuel + 1, listed, .two i p j q => Region.ready .any ops listed == [i, j] && !tl.contains i && !tl.contains j && planOk tl ops fuel (listed.setIfInBounds i true) p && planOk tl ops fuel (listed.setIfInBounds j true) q
  | fuel + 1, listed, .three i p j q k r => Region.ready .any ops listed == [i, j, k] && !tl.contains i && !tl.contains j && !tl.contains k && planOk tl ops fuel (listed.setIfInBounds i true) p && planOk tl ops fuel (listed.setIfInBounds j true) q &&
      planOk tl ops fuel (listed.setIfInBounds k true) r
  | 0, _, _ => false

/-- What is read is in pk, or read by all. -/
theorem vcVal_sound (hT : TOk P T) (hs : SatL E s a w ρ A) {K : LS → Prop} (h : vcVal T pk o s K) :
    ∃ v x, putK s o.dst x K ∧ RepV (ctxOf E s.toF.H w ρ A) x v ∧ ∀ w', PrSame (Prot E s w ρ pk) w w' → (execOp a.eval o).run P w' = .ok (.value v) w' := by
  have haux : (auxA T (listH s.H) s.ev o.op fun x => putK s o.dst x K) → ∃ v x, putK s o.dst x K ∧ RepV (ctxOf E s.toF.H w ρ A) x v ∧ ∀ w', PrSame (Prot E s w ρ pk) w w' → (execOp a.eval o).run P w' = .ok (.value v) w' := by
    intro h
    obtain ⟨v, x, hK, hr, hrun⟩ := auxA_sound hT hs.obj (ev_rep hs) h
    exact ⟨v, x, hK, hr, fun w' _ => hrun w'⟩
  have hval : (∀ k, readsOf o.op (o.op.operands.toList.map s.ev) = some k → k ∈ pk ∧ alive (listH s.H) k) → (valA T (listH s.H) (s.F0 ++ s.NF) o.op (o.op.operands.toList.map s.ev) fun x => putK s o.dst x K) →
      ∃ v x, putK s o.dst x K ∧ RepV (ctxOf E s.toF.H w ρ A) x v ∧ ∀ w', PrSame (Prot E s w ρ pk) w w' → (execOp a.eval o).run P w' = .ok (.value v) w' := by
    intro hk h
    obtain ⟨v, x, hK, hr, hrun⟩ := valA_sound hs.toSatW hT (ev_rep hs) h
    exact ⟨v, x, hK, hr, fun w' hw => hrun w' ⟨fun b hb => hw b (hb.imp id .inl), fun j hj => hw _ (.inr (.inr ⟨j, (hk j hj).1, (hk j hj).2, rfl⟩))⟩⟩
  unfold vcVal at h
  split at h
  all_goals first
    | exact h.elim
    | exact haux h
    | skip
  case h_4 t x hop =>
    obtain ⟨h1, h2⟩ := h
    refine hval (fun k hk => ?_) h2
    rw [hop] at hk
    have hk : refOf (s.ev x) = some k := hk
    rw [hk] at h1
    refine ⟨by simpa using h1, ?_⟩
    have hr := ev_rep hs x
    obtain ⟨k', hk', ha⟩ := RepO.alive_of (by revert hk; generalize s.ev x = y; cases y <;> simp [refOf, isRef]) hr
    rw [hk] at hk'
    cases hk'
    exact ha
  case h_5 t u x hop =>
    obtain ⟨h1, h2⟩ := h
    refine hval (fun k hk => ?_) h2
    rw [hop] at hk
    have hk : refOf (s.ev x) = some k := hk
    rw [hk] at h1
    refine ⟨by simpa using h1, ?_⟩
    have hr := ev_rep hs x
    obtain ⟨k', hk', ha⟩ := RepO.alive_of (by revert hk; generalize s.ev x = y; cases y <;> simp [refOf, isRef]) hr
    rw [hk] at hk'
    cases hk'
    exact ha
  all_goals
    rename_i hop
    refine hval (fun k hk => ?_) h
    rw [hop] at hk
    simp [readsOf] at hk

theorem plan_sound (hT : TOk P T) (hC : COk P C) (hn0 : E.At n0 C) {K : LS → Prop} (hsel : Region.noSelect ops = true) (hQ : ∀ s' a' w' ρ' A', K s' → E.n0 ≤ s'.H.length → SatL E s' a' w' ρ' A' → Q .normal a' w')
    (hQp : ∀ c a w, ¬ Q (.panic c) a w) (hL : ¬ LetsOut Q) :
    ∀ (p : Plan) (fuel : Nat) (listed : Array Bool) (s : LS) (a : Act) (w : World) (ρ : Nat → Nat) (A : FA) (Pr : Nat → Prop), planOk tl ops fuel listed p = true → Closed ops .any listed → E.n0 ≤ s.H.length → SatL E s a w ρ A →
      ((∀ b, Pr b → Prot E s w ρ pk b) ∨ tailB tl p = true) → vcPlan T C n0 pk tl ops p s K → wpAnyP P .any ops Pr tl Q fuel listed a w := by
  have runK : ∀ (i : Nat) (o : Oper) (p : Plan) (fuel : Nat) (listed : Array Bool) (s : LS) (a : Act) (w : World) (ρ : Nat → Nat) (A : FA) (Pr : Nat → Prop), ops[i]? = some o → E.n0 ≤ s.H.length → SatL E s a w ρ A →
      ((i ∉ tl ∧ ∀ b, Pr b → Prot E s w ρ pk b) ∨ (i ∈ tl ∧ tailB tl p = true)) →
      (∀ (s : LS) (a : Act) (w : World) (ρ : Nat → Nat) (A : FA) (Pr : Nat → Prop), E.n0 ≤ s.H.length → SatL E s a w ρ A → ((∀ b, Pr b → Prot E s w ρ pk b) ∨ tailB tl p = true) → vcPlan T C n0 pk tl ops p s K → wpAnyP P .any ops Pr tl Q fuel listed a w) →
      (vcG ops o (vcOp T C n0 (if tl.contains i then [] else pk) o) s fun s => vcPlan T C n0 pk tl ops p s K) →
      wpOp P ops Q i (fun a' w' => wpAnyP P .any ops Pr tl Q fuel listed a' w' ∧ (i ∉ tl → PrSame Pr w w')) a w := by
    intro i o p fuel listed s a w ρ A Pr hi hle hs hc ih h
    unfold wpOp
    simp only [hi]
    rcases vcG_cases hs h with ⟨hw, h⟩ | ⟨hw, h⟩
    · rw [if_pos hw]
      refine .inl (Oper.wp_mono ?_ (vcOp_sound hT hC hn0 hle hs h))
      rintro a' w' ⟨s', h1, h2, ρ', A', h3, h4⟩
      rcases hc with ⟨hit, hpr⟩ | ⟨hit, htl⟩
      · have hcf : tl.contains i = false := by simpa using hit
        rw [hcf] at h4
        obtain ⟨g1, g2⟩ := prot_step hs (by simpa using h4)
        exact ⟨ih s' a' w' ρ' A' Pr h2 h3 (.inl fun b hb => g1 b (hpr b hb)) h1, fun _ b hb => g2 b (hpr b hb)⟩
      · exact ⟨ih s' a' w' ρ' A' Pr h2 h3 (.inr htl) h1, fun hn => absurd hit hn⟩
    · rw [if_neg (by rw [hw]; simp)]
      obtain ⟨s', h1, h2, h3, h4⟩ := putK_out h
      have hs' : SatL E s' (a.put o.dst undef) w ρ A := by
        unfold SatL
        rw [h2, h3]
        exact Sat.put hs o.dst (.val _)
      have hPp : ∀ b, Prot E s w ρ pk b → Prot E s' w ρ pk b := fun b hb => by unfold Prot at *; rw [h4]; exact hb
      refine ⟨ih s' _ w ρ A Pr (by rw [h4]; exact hle) hs' ?_ h1, fun _ _ _ => rfl⟩
      rcases hc with ⟨_, hpr⟩ | ⟨_, htl⟩
      · exact .inl fun b hb => hPp b (hpr b hb)
      · exact .inr htl
  intro p
  induction p with
  | done =>
    intro fuel listed s a w ρ A Pr hok hcl hle hs _ h
    have hr : Region.ready .any ops listed = [] := by cases fuel <;> simpa [planOk] using hok
    cases fuel with
    | zero => exact ⟨hr, hQ s a w ρ A h hle hs⟩
    | succ fuel => exact ⟨fun _ => hQ s a w ρ A h hle hs, by rw [hr]; simp⟩
  | take i p ih =>
    intro fuel listed s a w ρ A Pr hok hcl hle hs hPr h
    cases fuel with
    | zero => simp [planOk] at hok
    | succ fuel =>
      simp only [planOk, Bool.and_eq_true, Bool.not_eq_true', List.contains_eq_mem, decide_eq_false_iff_not, decide_eq_true_eq] at hok
      obtain ⟨⟨⟨⟨hit, hrd⟩, hfr⟩, hdep⟩, hok⟩ := hok
      replace hPr : ∀ b, Pr b → Prot E s w ρ pk b := hPr.resolve_right (by simp [tailB])
      unfold vcPlan at h
      cases hi : ops[i]? with
      | none => rw [hi] at h; exact h.elim
      | some o =>
        rw [hi] at h
        simp only at h
        refine wpAnyP_mono hPr ?_
        have htl : isMove ops i = true ∨ ∀ j ∈ tl, depT ops ops.size j i = true := (Bool.or_eq_true _ _ ▸ hdep).imp id fun h j hj => List.all_eq_true.1 h j hj
        rcases vcG_cases hs h with ⟨hw, h⟩ | ⟨hw, h⟩
        · obtain ⟨v, x, hK, hr, hrun⟩ := vcVal_sound hT hs h
          obtain ⟨s', h1, h2, h3, h4⟩ := putK_out hK
          have hs' : SatL E s' (a.put o.dst v) w ρ A := by
            unfold SatL
            rw [h2, h3]
            exact Sat.put hs o.dst hr
          have hgo : wpAnyP P .any ops (Prot E s w ρ pk) tl Q fuel (listed.setIfInBounds i true) (a.put o.dst v) w :=
            ih fuel _ s' _ w ρ A _ hok (hcl.add hrd) (by rw [h4]; exact hle) hs' (.inl fun b hb => by unfold Prot at *; rw [h4]; exact hb) h1
          rcases htl with hmv | htl
          · have hall : ∀ w', (execOp a.eval o).run P w' = .ok (.value v) w' := by
              unfold isMove at hmv
              rw [hi] at hmv
              simp only at hmv
              have h0 := hrun w fun _ _ => rfl
              intro w'
              split at hmv
              · rename_i x0 hop
                simp only [execOp, hop, Sem.run_pure, Result.ok.injEq, Next.value.injEq, and_true] at h0 ⊢
                exact h0
              · rename_i x0 hop
                simp only [execOp, hop, Sem.run_pure, Result.ok.injEq, Next.value.injEq, and_true] at h0 ⊢
                exact h0
              · cases hmv
            exact wpAnyP_first (Pr0 := fun _ => False) (w₀ := w) hi (Region.noSelect_spec hsel) hQp hL (.inr fun _ h => h) fuel listed a w hcl (Region.free_spec hi hfr) hrd (fun _ _ => rfl) (.inl ⟨hw, fun w' _ => hall w'⟩) hgo
          exact wpAnyP_first hi (Region.noSelect_spec hsel) hQp hL (.inl ⟨rfl, htl⟩) fuel listed a w hcl (Region.free_spec hi hfr) hrd (fun _ _ => rfl) (.inl ⟨hw, hrun⟩) hgo
        · obtain ⟨s', h1, h2, h3, h4⟩ := putK_out h
          have hs' : SatL E s' (a.put o.dst undef) w ρ A := by
            unfold SatL
            rw [h2, h3]
            exact Sat.put hs o.dst (.val _)
          refine wpAnyP_first (Pr0 := fun _ => False) (w₀ := w) hi (Region.noSelect_spec hsel) hQp hL (.inr fun _ h => h) fuel listed a w hcl (Region.free_spec hi hfr) hrd (fun _ _ => rfl) (.inr ⟨hw, rfl⟩) (Pr := Prot E s w ρ pk)
            (ih fuel _ s' _ w ρ A _ hok (hcl.add hrd) (by rw [h4]; exact hle) hs' (.inl fun b hb => by unfold Prot at *; rw [h4]; exact hb) h1)
  | run i p ih =>
    intro fuel listed s a w ρ A Pr hok hcl hle hs hPr h
    cases fuel with
    | zero => simp [planOk] at hok
    | succ fuel =>
      simp only [planOk, Bool.and_eq_true, beq_iff_eq, Bool.or_eq_true, Bool.not_eq_true', List.contains_eq_mem, decide_eq_false_iff_not] at hok
      obtain ⟨⟨hrd, htail⟩, hok⟩ := hok
      unfold vcPlan at h
      cases hi : ops[i]? with
      | none => rw [hi] at h; exact h.elim
      | some o =>
        rw [hi] at h
        simp only at h
        refine ⟨fun he => by rw [hrd] at he; simp at he, fun j hj => ?_⟩
        rw [hrd] at hj
        simp only [List.mem_singleton] at hj
        subst hj
        refine runK j o p fuel _ s a w ρ A Pr hi hle hs ?_ (fun s a w ρ A Pr hle hs hp hv => ih fuel _ s a w ρ A Pr hok (hcl.add (by rw [hrd]; simp)) hle hs hp hv) h
        by_cases hjt : j ∈ tl
        · exact .inr ⟨hjt, htail.resolve_left (by simpa using hjt)⟩
        · refine .inl ⟨hjt, hPr.resolve_right ?_⟩
          simp [tailB, hjt]
  | two i p j q ihp ihq =>
    intro fuel listed s a w ρ A Pr hok hcl hle hs hPr h
    cases fuel with
    | zero => simp [planOk] at hok
    | succ fuel =>
      simp only [planOk, Bool.and_eq_true, beq_iff_eq, Bool.not_eq_true', List.contains_eq_mem, decide_eq_false_iff_not] at hok
      obtain ⟨⟨⟨⟨hrd, hit⟩, hjt⟩, hokp⟩, hokq⟩ := hok
      replace hPr : ∀ b, Pr b → Prot E s w ρ pk b := hPr.resolve_right (by simp [tailB])
      unfold vcPlan at h
      cases hi : ops[i]? with
      | none => rw [hi] at h; exact h.elim
      | some o =>
        cases hj : ops[j]? with
        | none => rw [hi, hj] at h; exact h.elim
        | some o' =>
          rw [hi, hj] at h
          simp only at h
          refine ⟨fun he => by rw [hrd] at he; simp at he, fun m hm => ?_⟩
          rw [hrd] at hm
          simp only [List.mem_cons, List.not_mem_nil, or_false] at hm
          rcases hm with rfl | rfl
          · exact runK m o p fuel _ s a w ρ A Pr hi hle hs (.inl ⟨hit, hPr⟩) (fun s a w ρ A Pr hle hs hp hv => ihp fuel _ s a w ρ A Pr hokp (hcl.add (by rw [hrd]; simp)) hle hs hp hv) h.1
          · exact runK m o' q fuel _ s a w ρ A Pr hj hle hs (.inl ⟨hjt, hPr⟩) (fun s a w ρ A Pr hle hs hp hv => ihq fuel _ s a w ρ A Pr hokq (hcl.add (by rw [hrd]; simp)) hle hs hp hv) h.2
  | three i p j q k r ihp ihq ihr =>
    intro fuel listed s a w ρ A Pr hok hcl hle hs hPr h
    cases fuel with
    | zero => simp [planOk] at hok
    | succ fuel =>
      simp only [planOk, Bool.and_eq_true, beq_iff_eq, Bool.not_eq_true', List.contains_eq_mem, decide_eq_false_iff_not] at hok
      obtain ⟨⟨⟨⟨⟨⟨hrd, hit⟩, hjt⟩, hkt⟩, hokp⟩, hokq⟩, hokr⟩ := hok
      replace hPr : ∀ b, Pr b → Prot E s w ρ pk b := hPr.resolve_right (by simp [tailB])
      unfold vcPlan at h
      cases hi : ops[i]? with
      | none => rw [hi] at h; exact h.elim
      | some o =>
        cases hj : ops[j]? with
        | none => rw [hi, hj] at h; exact h.elim
        | some o' =>
          cases hk : ops[k]? with
          | none => rw [hi, hj, hk] at h; exact h.elim
          | some o'' =>
            rw [hi, hj, hk] at h
            simp only at h
            refine ⟨fun he => by rw [hrd] at he; simp at he, fun m hm => ?_⟩
            rw [hrd] at hm
            simp only [List.mem_cons, List.not_mem_nil, or_false] at hm
            rcases hm with rfl | rfl | rfl
            · exact runK m o p fuel _ s a w ρ A Pr hi hle hs (.inl ⟨hit, hPr⟩) (fun s a w ρ A Pr hle hs hp hv => ihp fuel _ s a w ρ A Pr hokp (hcl.add (by rw [hrd]; simp)) hle hs hp hv) h.1
            · exact runK m o' q fuel _ s a w ρ A Pr hj hle hs (.inl ⟨hjt, hPr⟩) (fun s a w ρ A Pr hle hs hp hv => ihq fuel _ s a w ρ A Pr hokq (hcl.add (by rw [hrd]; simp)) hle hs hp hv) h.2.1
            · exact runK m o'' r fuel _ s a w ρ A Pr hk hle hs (.inl ⟨hkt, hPr⟩) (fun s a w ρ A Pr hle hs hp hv => ihr fuel _ s a w ρ A Pr hokr (hcl.add (by rw [hrd]; simp)) hle hs hp hv) h.2.2

/-- All objects but those of 'tk'. -/
def pkOf (H : List AO) (tk : List Nat) : List Nat := (List.range H.length).filter fun k => isAlive (listH H k) && !tk.contains k

theorem draw_plan {T : TT} {C : CT} {n0 id : Nat} {ops : Array Oper} {s : LS} {K : LS → Prop} (tk tl : List Nat) (p : Plan) (hsel : Region.noSelect ops = true) (hok : planOk tl ops ops.size (Array.replicate ops.size false) p = true)
    (h : natK (pkOf s.H tk) fun pk => vcPlan T C n0 pk tl ops p s K) : Draw T C n0 id ops s K := by
  refine ⟨fun P Q E a w ρ A hT hC hn0 hle hs hQ hQp hL => ?_⟩
  have h := natK_out h
  have hsd : SatL E s a { w with drawn := w.drawn + 1 } ρ A := hs.drew
  have hcl0 : Closed ops .any (Array.replicate ops.size false) := by
    intro k ok hk hl
    have hlt : k < ops.size := (Array.getElem?_eq_some_iff.1 hk).1
    simp [hlt] at hl
  exact wpAny_of_P (Pr := fun _ => False) (tl := tl) (plan_sound hT hC hn0 hsel hQ hQp hL p ops.size _ s a _ ρ A _ hok hcl0 hle hsd (.inl fun _ h => h.elim) h)
end Go.Vc
namespace Go.Vc
variable {P : Program}

def kindOf : TypeDesc → Nat
  | .slice _ => 1
  | .array _ _ => 2
  | .struct _ => 3
  | .string => 4
  | .bool => 5
  | .int _ => 6
  | .pointer _ => 7
  | .interface _ => 8
  | _ => 0
def aggOf : TypeDesc → Bool
  | .struct _ | .array _ _ => true
  | _ => false
def elemOf : TypeDesc → TypeId
  | .slice e | .array _ e | .pointer e => e
  | _ => 0
def isI64 : Option TypeDesc → Bool
  | some (.int .i64) => true
  | _ => false
theorem isI64_out {d : Option TypeDesc} (h : isI64 d = true) : d = some (.int .i64) := by
  unfold isI64 at h
  split at h
  · rfl
  · cases h
def cmp2B (P : Program) (t : TypeId) : List Field → Bool
  | [f1, f2] => f1.name != "_" && (f2.name != "_" && (f1.offset == 0 && (f2.offset == 1 && (isI64 (P.underlying f1.type) && (isI64 (P.underlying f2.type) && (!P.stoodInHeld t && !P.eqGuardType P.depth t))))))
  | _ => false
theorem cmp2B_out {P : Program} {t : TypeId} {fs : Array Field} (hu : P.underlying t = some (.struct fs)) (h : cmp2B P t fs.toList = true) : Cmp2 P t := by
  generalize hl : fs.toList = l at h
  unfold cmp2B at h
  split at h
  · rename_i f1 f2
    simp only [Bool.and_eq_true, bne_iff_ne, beq_iff_eq, Bool.not_eq_true'] at h
    obtain ⟨h1, h2, h3, h4, h5, h6, h7, h8⟩ := h
    have e : fs = #[f1, f2] := by apply Array.ext'; simpa using hl
    subst e
    exact ⟨f1, f2, hu, h1, h2, h3, h4, isI64_out h5, isI64_out h6, h7, h8⟩
  · cases h
def alenOf (P : Program) (t : TypeId) : TypeDesc → Nat
  | .array n _ => n
  | .struct fs => if cmp2B P t fs.toList then 1 else 0
  | _ => 0
def ikOf : TypeDesc → IntKind
  | .int k => k
  | _ => .i64
def fieldsOf (P : Program) : TypeDesc → List (Nat × Nat)
  | .struct fs => fs.toList.map fun f => (f.offset, P.cellsOf f.type)
  | _ => []
def isAggV : Value → Bool
  | .agg _ => true
  | _ => false
def tiOf (P : Program) (t : TypeId) : Option TI :=
  match P.info? t, P.underlying t with
  | some i, some d => match i.zero with
    | some z =>
      if z.cells.toList.all (·.oneCell') && z.cells.toList.length == i.size && (aggOf d || i.size == 1) && (fieldsOf P d).all (fun p => decide (0 < p.2)) && (!aggOf d || isAggV z) then
        some ⟨kindOf d, aggOf d, i.size, i.bytes, z.cells.toList, fieldsOf P d, elemOf d, alenOf P t d, ikOf d⟩
      else none
    | none => none
  | _, _ => none

theorem tiOf_ok {t : TypeId} {ti : TI} (h : tiOf P t = some ti) : TyOk P t ti := by
  unfold tiOf at h
  split at h
  case h_2 => cases h
  case h_1 i d hi hd =>
    split at h
    case h_2 => cases h
    case h_1 z hz =>
      split at h
      case isFalse => cases h
      case isTrue hc =>
        simp only [Bool.and_eq_true, decide_eq_true_eq, beq_iff_eq, Bool.or_eq_true, List.all_eq_true] at hc
        obtain ⟨⟨⟨⟨h2, h3⟩, h4⟩, h5⟩, h6⟩ := hc
        cases h
        refine { info := ⟨i, z, hi, rfl, rfl, hz, rfl⟩, one := h2, zlen := h3, agg := fun w => ?_, sz1 := fun ha => h4.resolve_left (by have ha : aggOf d = false := ha; simp [ha]), slice := ?_, array := ?_, struct := ?_, string := ?_, bool := ?_, int := ?_, ptr := ?_, iface := ?_, cmp := ?_, zagg := ?_ }
        · simp only [isAgg, underlying, Sem.run_bind]
          cases d <;> simp [hd, aggOf]
        all_goals intro hk
        · cases d <;> simp [kindOf] at hk <;> exact hd
        · cases d <;> simp [kindOf] at hk <;> exact hd
        · cases d <;> simp [kindOf] at hk
          rename_i fs
          refine ⟨fs, hd, rfl, fun f hf => ?_⟩
          have := h5 (f.offset, P.cellsOf f.type) (by
            simp only [fieldsOf, List.mem_map]
            exact ⟨f, by simpa using hf, rfl⟩)
          exact this
        · cases d <;> simp [kindOf] at hk <;> exact hd
        · cases d <;> simp [kindOf] at hk <;> exact hd
        · cases d <;> simp [kindOf] at hk <;> exact hd
        · cases d <;> simp [kindOf] at hk <;> exact hd
        · cases d <;> simp [kindOf] at hk <;> exact ⟨_, hd⟩
        · intro hal
          cases d <;> simp [kindOf] at hk
          rename_i fs
          have hal : (if cmp2B P t fs.toList then 1 else 0) = 1 := hal
          split at hal
          · exact cmp2B_out hd ‹_›
          · cases hal
        · have ha : aggOf d = true := hk
          rw [ha] at h6
          cases z <;> simp [isAggV] at h6
          exact ⟨i, _, hi, hz⟩

def tblT (l : List (TypeId × TI)) : TT := fun t => (l.find? fun p => p.1 == t).map (·.2)
theorem tbl_ok {l : List (TypeId × TI)} (h : l.map (fun p => tiOf P p.1) = l.map fun p => some p.2) : TOk P (tblT l) := by
  intro t ti ht
  unfold tblT at ht
  obtain ⟨p, hp, rfl⟩ := Option.map_eq_some_iff.1 ht
  have hm := List.mem_of_find?_eq_some hp
  have he : p.1 = t := by simpa using List.find?_some hp
  obtain ⟨i, hi, hg⟩ := List.getElem_of_mem hm
  have h1 := congrArg (·[i]?) h
  simp only [List.getElem?_map, List.getElem?_eq_getElem hi, hg, Option.map_some, Option.some.injEq] at h1
  rw [← he]
  exact tiOf_ok h1
end Go.Vc
namespace Go.Vc
variable {P : Program}

def tabC (l : List (FuncId × Con)) : CT := ⟨fun f => (l.find? fun p => p.1 == f).map (·.2), false, fun _ => none, fun _ _ => none⟩
/-- The same for a body that leaves what came in where it lies. -/
def CT.stay (C : CT) : CT := ⟨C.get, true, C.it, C.me⟩
/-- The same with an iterator. -/
def CT.iter (C : CT) (f : FuncId) (i : It) : CT := ⟨C.get, C.fx, fun g => if g = f then some i else C.it g, C.me⟩
theorem cok_iter {C : CT} {f : FuncId} {i : It} (h : COk P C) (he : ∀ args w, (callFunc f args).run P w = .ok (.enter f args) w) (hi : ∀ c0 n args cell, i c0 n args cell → cell 0 = c0 ∧ IterC P f n args cell) : COk P (C.iter f i) := by
  refine ⟨h.1, fun g it hg => ?_, h.2.2⟩
  simp only [CT.iter] at hg
  split at hg
  · rename_i e
    cases hg
    subst e
    exact ⟨he, hi⟩
  · exact h.2.1 g it hg
/-- The same with a method. -/
def CT.meth (C : CT) (t : TypeId) (nm : String) (m : FuncId × Bool × TypeId) : CT := ⟨C.get, C.fx, C.it, fun u n => if u = t ∧ n = nm then some m else C.me u n⟩
theorem cok_meth {C : CT} {t : TypeId} {nm : String} {m : FuncId × Bool × TypeId} (h : COk P C) (hm : MethOk P t nm m) : COk P (C.meth t nm m) := by
  refine ⟨h.1, h.2.1, fun u n m' hg => ?_⟩
  simp only [CT.meth] at hg
  split at hg
  · rename_i e
    cases hg
    rw [e.1, e.2]
    exact hm
  · exact h.2.2 u n m' hg
theorem cok_stay {C : CT} (h : COk P C) : COk P C.stay := h
theorem cok_nil : COk P (tabC []) := ⟨by intro f con h; simp [tabC] at h, by intro f it h; simp [tabC] at h, by intro t nm m h; simp [tabC] at h⟩
theorem cok_cons {l : List (FuncId × Con)} {f : FuncId} {con : Con} {fn : Func} (h : Keeps' P f con) (hf : P.funcs[f]? = some fn) (hn : (fn.name == "runtime.NumGoroutine") = false) (hb : fn.body.isNone = false) (hl : COk P (tabC l)) : COk P (tabC ((f, con) :: l)) := by
  refine ⟨?_, by intro f it h; simp [tabC] at h, by intro t nm m h; simp [tabC] at h⟩
  intro g con' hg
  unfold tabC at hg
  simp only at hg
  rw [List.find?_cons] at hg
  split at hg
  · rename_i he
    have he : f = g := by simpa using he
    subst he
    simp only [Option.map_some, Option.some.injEq] at hg
    subst hg
    exact ⟨h, fn, hf, hn, hb⟩
  · exact hl.1 g con' hg

/-- The slots of a frame: those of the list hold what it says. -/
def mkE : Nat → Nat → List (Nat × AV) → List AV
  | _, 0, _ => []
  | i, n + 1, [] => .any :: mkE (i + 1) n []
  | i, n + 1, (t, v) :: r => if t = i then v :: mkE (i + 1) n r else .any :: mkE (i + 1) n ((t, v) :: r)
abbrev mkS (n : Nat) (l : List (Nat × AV)) (H : List AO) (F : List Fam) : LS := ⟨mkE 0 n l, H, F, []⟩

/-- A loop: the invariant, the measure, the state at its head. -/
theorem loop_in {n0 : Nat} {V : LS → (Ex → LS → Prop) → Prop} {s : LS} {K : Ex → LS → Prop} {ι : Type} (mk : ι → LS) (J : ι → Prop) (m : ι → Nat) (g : ι) (σ : List Nat) (h0 : J g) (hL : LeS n0 σ (mk g) s)
    (h : ∀ g, J g → forceS (mk g) fun s => V s fun e s' => match e with
      | .normal => ∃ g' σ, J g' ∧ m g' < m g ∧ LeS n0 σ (mk g') s'
      | e => K e s') : Loop n0 V s K := ⟨ι, mk, J, m, ⟨g, σ, h0, hL⟩, h⟩

/-- A nil slice where numbers are looked for. -/
def nilC : AV → AV
  | .val (.slice none 0 0) => .ints []
  | a => a
def nilA : AV → AV
  | .agg cs => .agg (cs.map nilC)
  | a => nilC a
theorem nilC_rep {c : Ctx} {a : AV} {v : Value} (h : RepV c a v) : RepV c (nilC a) v := by
  unfold nilC
  split
  · cases h; exact .ints [] _ (.sl0 1 _ _)
  · exact h
theorem nilA_rep {c : Ctx} {a : AV} {v : Value} (h : RepV c a v) : RepV c (nilA a) v := by
  unfold nilA
  split
  · rename_i cs
    cases h with
    | agg _ vs hl h1 h =>
      refine .agg _ vs (by simpa using hl) h1 fun i a v ha hv => ?_
      rw [List.getElem?_map] at ha
      obtain ⟨a0, ha0, rfl⟩ := Option.map_eq_some_iff.1 ha
      exact nilC_rep (h i a0 v ha0 hv)
  · exact nilC_rep h
/-- The same contract, nil slices among the arguments. -/
def Con.nil (con : Con) : Con := ⟨con.nnew, con.mode, con.alias, fun xs hs Fs K => con.C (xs.map nilA) hs Fs K⟩
theorem keeps_nil {f : FuncId} {con : Con} (h : Keeps' P f con) : Keeps' P f con.nil := by
  intro E args aargs hs Fs K hc hl hn hsat hr hfx
  refine h E args (aargs.map nilA) hs Fs K hc (by simpa using hl) hn hsat (fun i a v ha hv => ?_) hfx
  rw [List.getElem?_map] at ha
  obtain ⟨a0, ha0, rfl⟩ := Option.map_eq_some_iff.1 ha
  exact nilA_rep (hr i a0 v ha0 hv)
end Go.Vc
