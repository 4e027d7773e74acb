/-
Operations and regions walked in the frame of a function or in that of a round of a range over a function.
No conditions.
-/
import Derived.Test.YtalbgcpfekmfoaaVcMD
import Derived.RangeFuncIn
import Derived.RangeFuncRecord
import Derived.OrdersIn
import Derived.TacticsIn
namespace Go.Vc
variable {P : Program} {a : Act} {w : World} {o : Oper} {Q : Exit → Act → World → Prop} {K : Act → World → Prop} {n : Nat} {r : Option Nat}

/-- No bars at all; in round l, or in a function. -/
def FR (r : Option Nat) : Fence := { Fence.wide with round := r }
theorem fr_depth (h : (FR r).depth.isSome = true) : 1 ≤ n := by simp [FR, Fence.wide] at h
theorem fr_room (m : Nat) : (FR r).room m := fun _ h => by simp [FR, Fence.wide] at h

theorem stepsIn_fr {m m' : Machine} : StepsIn (Machine.fenced P (FR r)) P m m' ↔ Steps P m m' := stepsIn_wide
theorem callsIn_fr {f : FuncId} {args : Array Value} {R : Ending → World → Prop} : CallsIn (FR r) n P f args w R ↔ Calls P f args w R :=
  (callsIn_wide (n := n) : CallsIn Fence.wide n P f args w R ↔ _)
theorem rowsIn_fr {row : String} {args : Array Value} {R : Value → World → Prop} (h : Rows P row args w R) : RowsIn (FR r) n P row args w R :=
  fun c cs _ => let ⟨v, w', h1, h2⟩ := h c cs; ⟨v, w', h1, stepsIn_fr.2 h2⟩

theorem oper_in (hd : r = none ∨ ∀ c, o.op ≠ .defer c) (h : o.wp P a w K Q) : o.wpIn (FR r) n P a w K Q := by
  refine ⟨fun _ _ => trivial, ?_⟩
  have e : Oper.semAt (FR r).round a.eval o = execOp a.eval o := by
    rcases hd with rfl | hd
    · rfl
    · exact Oper.semAt_eq _ _ _ hd
  rw [e]
  unfold Oper.wp at h
  generalize (execOp a.eval o).run P w = res at h
  cases res with
  | ok x w' =>
    cases x <;> simp only [Oper.upon, Oper.uponIn] at h ⊢ <;> first
      | exact h
      | exact ⟨fun h => fr_depth h, callsIn_fr.2 h⟩
      | exact ⟨fun h => fr_depth h, rowsIn_fr h⟩
  | halt x w' =>
    cases x <;> simp only [Oper.upon, Oper.uponIn] at h ⊢ <;> exact h

def noDefO (o : Oper) : Bool := match o.op with
  | .defer _ => false
  | _ => true
theorem noDefO_out (h : noDefO o = true) : ∀ c, o.op ≠ .defer c := by
  intro c e
  simp [noDefO, e] at h
/-- No deferred call, and no range over a function. -/
def noDef : Code → Bool
  | .region _ ops _ => ops.toList.all noDefO
  | .seq x y => noDef x && noDef y
  | .cond _ x y => noDef x && noDef y
  | .block _ c => noDef c
  | .loop c => noDef c
  | .scope c => noDef c
  | .rangeFunc _ _ _ _ => false
  | _ => true

theorem list_in {ops : Array Oper} (hL : ¬ LetsOut Q) : ∀ {l : List Oper} {a : Act} {w : World}, (r = none ∨ l.all noDefO = true) → wpList P ops Q l a w → wpListIn (FR r) n P ops Q l a w
  | [], _, _, _, h => h
  | o :: t, a, w, hd, h => by
    unfold wpListIn
    unfold wpList at h
    have hd1 : r = none ∨ ∀ c, o.op ≠ .defer c := hd.imp id fun h => noDefO_out (by simp at h; exact h.1)
    have hd2 : r = none ∨ t.all noDefO = true := hd.imp id fun h => by simp at h ⊢; exact h.2
    split
    · rename_i hw
      rw [if_pos hw] at h
      rcases h with h | ⟨_, h⟩
      · exact Oper.wpIn_mono (fun a w h => list_in hL hd2 h) (oper_in hd1 h)
      · exact absurd h hL
    · rename_i hw
      rw [if_neg hw] at h
      exact ⟨fun _ _ => trivial, list_in hL hd2 h⟩
theorem any_in {ops : Array Oper} {md : Region.Mode} (hL : ¬ LetsOut Q) (hd : r = none ∨ ops.toList.all noDefO = true) : ∀ {fuel : Nat} {listed : Array Bool} {a : Act} {w : World}, wpAny P md ops Q fuel listed a w → wpAnyIn (FR r) n P md ops Q fuel listed a w
  | 0, _, _, _, h => h
  | fuel + 1, listed, a, w, h => by
    refine ⟨h.1, fun i hi => ?_⟩
    have h := h.2 i hi
    unfold wpOp at h
    unfold wpOpIn
    cases ho : ops[i]? with
    | none => rw [ho] at h; exact any_in hL hd h
    | some o =>
      rw [ho] at h
      simp only at h ⊢
      have hd1 : r = none ∨ ∀ c, o.op ≠ .defer c := hd.imp id fun h => noDefO_out (List.all_eq_true.1 h o (by
        have := Array.mem_of_getElem? ho
        simpa using this))
      split
      · rename_i hw
        rw [if_pos hw] at h
        rcases h with h | ⟨_, h⟩
        · exact Oper.wpIn_mono (fun a w h => any_in hL hd h) (oper_in hd1 h)
        · exact absurd h hL
      · rename_i hw
        rw [if_neg hw] at h
        exact ⟨fun _ _ => trivial, any_in hL hd h⟩

theorem wpIn_loop_ghost {F : Fence} {c : Code} (I : Nat → Act → World → Prop) (n₀ : Nat) (h₀ : I n₀ a w)
    (round : ∀ k a w, I k a w → c.wpIn F n P (Exit.then (fun a' w' => ∃ n', n' < k ∧ I n' a' w') Q) a w) : (Code.loop c).wpIn F n P Q a w := by
  refine wpIn_loop (fun a w => ∃ n, I n a w) (fun a w => leastOf (fun n => I n a w)) ⟨n₀, h₀⟩ ?_
  intro a w hI
  refine wpIn_mono (round _ a w (leastOf_spec hI).1) ?_
  intro e a' w' hq
  cases e with
  | normal =>
    obtain ⟨n', hlt, hI'⟩ := hq
    exact show (∃ n, I n a' w') ∧ leastOf (fun n => I n a' w') < leastOf (fun n => I n a w) from ⟨⟨n', hI'⟩, Nat.lt_of_le_of_lt ((leastOf_spec ⟨n', hI'⟩).2 n' hI') hlt⟩
  | exit id => exact hq
  | goto l => exact hq
  | ret => exact hq
  | panic ch => exact hq
  | outgrown => exact hq
end Go.Vc
