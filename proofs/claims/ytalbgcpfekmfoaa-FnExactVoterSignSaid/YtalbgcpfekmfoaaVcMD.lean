/-
The condition of a whole body: a state of lists, an operation's step on it, and the code walked through.
The condition of a whole body is enough: soundness of the steps on lists.
An abstract state seen through another numbering of its objects, and a state that says less.
No conditions.
-/
import Derived.Test.YtalbgcpfekmfoaaVcMC
import Derived.Orders
import Derived.RangeFuncSeq
import Derived.Deep.LoopGhost
namespace Go.Vc

structure LS where
  env : List AV
  H : List AO
  F0 : List Fam
  NF : List Fam

def LS.toF (s : LS) : FS := ⟨fun t => s.env.getD t .any, listH s.H, s.F0 ++ s.NF⟩
def LS.ev (s : LS) : Operand → AV
  | .tmp t => s.env.getD t .any
  | .const v => .val v
  | .global g => .val (.pointer (some ⟨g, 0, none⟩))
  | .func f => .val (.func (.func f) #[] #[])

/-- A number written out. -/
def litK (n : Nat) (k : Nat → Prop) : Prop := match n with
  | 0 => k 0
  | 1 => k 1
  | 2 => k 2
  | 3 => k 3
  | 4 => k 4
  | 5 => k 5
  | 6 => k 6
  | 7 => k 7
  | 8 => k 8
  | 9 => k 9
  | 10 => k 10
  | 11 => k 11
  | 12 => k 12
  | 13 => k 13
  | 14 => k 14
  | 15 => k 15
  | n => k n
theorem litK_out {n : Nat} {k : Nat → Prop} (h : litK n k) : k n := by
  unfold litK at h
  split at h <;> exact h
/-- A value brought to its head form; the parts of a piece of memory too. -/
def forceC (x : AV) (k : AV → Prop) : Prop :=
  match x with
  | .any => k .any
  | .val v => k (.val v)
  | .agg cs => k (.agg cs)
  | .tup cs => k (.tup cs)
  | .ints l => k (.ints l)
  | .bytes l => k (.bytes l)
  | .sl sz l => k (.sl sz l)
  | .zsl sz l => k (.zsl sz l)
  | .ro cs => k (.ro cs)
  | .ptr i o => litK i fun i => litK o fun o => k (.ptr i o)
  | .el i j o => litK i fun i => litK o fun o => k (.el i j o)
  | .own i => litK i fun i => k (.own i)
  | .sub i p q => litK i fun i => k (.sub i p q)
  | .win i o n => litK i fun i => litK o fun o => k (.win i o n)
  | .clo f i => litK i fun i => k (.clo f i)
  | .ifp t i o => litK i fun i => litK o fun o => k (.ifp t i o)
  | .rp f i o => litK o fun o => k (.rp f i o)
  | .iface t y => k (.iface t y)
def forceL : List AV → (List AV → Prop) → Prop
  | [], k => k []
  | x :: t, k => forceC x fun x => forceL t fun t => k (x :: t)
def forceB (x : AV) (k : AV → Prop) : Prop :=
  forceC x fun x => match x with
    | .agg cs => forceL cs fun cs => k (.agg cs)
    | x => k x
def forceM : List AV → (List AV → Prop) → Prop
  | [], k => k []
  | x :: t, k => forceB x fun x => forceM t fun t => k (x :: t)
def forceA (x : AV) (k : AV → Prop) : Prop :=
  forceB x fun x => match x with
    | .tup cs => forceM cs fun cs => k (.tup cs)
    | x => k x
def forceO (x : AO) (k : AO → Prop) : Prop :=
  match x with
  | .dead => k .dead
  | .cells cs => forceL cs fun cs => k (.cells cs)
  | .iarr l => k (.iarr l)
  | .arr sz l => k (.arr sz l)
def setK {α : Type} : List α → Nat → α → (List α → Prop) → Prop
  | [], _, _, k => k []
  | _ :: t, 0, v, k => k (v :: t)
  | b :: t, n + 1, v, k => setK t n v fun t' => k (b :: t')
def setHK : List AO → Nat → AO → (List AO → Prop) → Prop
  | [], _, _, _ => False
  | _ :: t, 0, v, k => k (v :: t)
  | b :: t, n + 1, v, k => setHK t n v fun t' => k (b :: t')
def mapK (f : AV → AV) : List AV → (List AV → Prop) → Prop
  | [], k => k []
  | x :: t, k => forceA (f x) fun x' => mapK f t fun t' => k (x' :: t')
def mapOK (f : AO → AO) : List AO → (List AO → Prop) → Prop
  | [], k => k []
  | x :: t, k => forceO (f x) fun x' => mapOK f t fun t' => k (x' :: t')
def snocK : List AO → List AO → (List AO → Prop) → Prop
  | [], r, k => mapOK id r k
  | x :: t, r, k => snocK t r fun t' => k (x :: t')
def appK : List Fam → List Fam → (List Fam → Prop) → Prop
  | [], r, k => k r
  | x :: t, r, k => appK t r fun t' => k (x :: t')
def putK (s : LS) (d : Option Tmp) (x : AV) (K : LS → Prop) : Prop :=
  match s with
  | ⟨env, H, F0, NF⟩ => forceA x fun x => match d with
    | none => K ⟨env, H, F0, NF⟩
    | some t => setK env t x fun env => K ⟨env, H, F0, NF⟩
def updK : List AO → List (Nat × AO) → (List AO → Prop) → Prop
  | H, [], k => k H
  | H, (i, o) :: r, k => forceO o fun o => setHK H i o fun H => updK H r k
def effK (s : LS) (d : Option Tmp) (e : Eff) (K : LS → Prop) : Prop :=
  match s, e with
  | ⟨env, H, F0, NF⟩, ⟨val, none, upd, new, []⟩ => updK H upd fun H => snocK H new fun H => putK ⟨env, H, F0, NF⟩ d val K
  | ⟨env, H, F0, NF⟩, ⟨val, some k, upd, new, []⟩ => mapK (mapR (killF k)) env fun env => mapOK (mapO (killF k)) H fun H => updK H upd fun H => snocK H new fun H => putK ⟨env, H, F0, NF⟩ d val K
  | _, _ => False

def refsC (x : AV) : List Nat := match refOf x with
  | some k => [k]
  | none => []
def refsA : AV → List Nat
  | .agg cs => cs.flatMap refsC
  | x => refsC x
def refsR : AV → List Nat
  | .tup cs => cs.flatMap refsA
  | x => refsA x
def refsO : AO → List Nat
  | .cells cs => cs.flatMap refsC
  | _ => []
def dedup : List Nat → List Nat
  | [] => []
  | k :: r => k :: (dedup r).filter (fun j => !(j == k))

/-- None of these objects is to stay as it is. -/
def offP (pk l : List Nat) (X : Prop) : Prop := match pk with
  | [] => X
  | k :: r => (l.all fun j => !(k :: r).contains j) = true ∧ X
theorem offP_out {pk l : List Nat} {X : Prop} (h : offP pk l X) : X ∧ ∀ j ∈ l, j ∉ pk := by
  unfold offP at h
  split at h
  · exact ⟨h, fun j _ => by simp⟩
  · refine ⟨h.2, fun j hj hp => ?_⟩
    have := List.all_eq_true.1 h.1 j hj
    simp only [Bool.not_eq_true', List.contains_eq_mem, decide_eq_false_iff_not] at this
    exact this hp
def tchL (e : Eff) : List Nat := e.upd.map (·.1) ++ e.kill.toList
/-- Objects that a value about to be laid into a row refers to: they are only read from then on. -/
def frzF (k : Nat) (o : AO) (r : AV) : AV := if refOf r = some k then roView o r else r
/-- A pointer to an object that becomes a family of its own. -/
def famP (f : Nat) : AV → AV
  | .ptr _ off => .rp f 0 off
  | _ => .any
def famF (k f : Nat) (r : AV) : AV := if refOf r = some k then famP f r else r
def frzK (n0 : Nat) (pk : List Nat) : List Nat → LS → (LS → Prop) → Prop
  | [], s, K => K s
  | k :: r, ⟨env, H, F0, NF⟩, K => match listH H k with
    | .dead => frzK n0 pk r ⟨env, H, F0, NF⟩ K
    | .cells cs => match cs.all pureB with
      | true => n0 ≤ k ∧ offP pk [k] (mapK (mapR (famF k (F0 ++ NF).length)) env fun env => mapOK (mapO (famF k (F0 ++ NF).length)) H fun H => setHK H k .dead fun H => appK NF [⟨none, [cs]⟩] fun NF => frzK n0 pk r ⟨env, H, F0, NF⟩ K)
      | false => n0 ≤ k ∧ offP pk [k] (mapK (mapR (frzF k (.cells cs))) env fun env => mapOK (mapO (frzF k (.cells cs))) H fun H => setHK H k .dead fun H => frzK n0 pk r ⟨env, H, F0, NF⟩ K)
    | o => n0 ≤ k ∧ offP pk [k] (mapK (mapR (frzF k o)) env fun env => mapOK (mapO (frzF k o)) H fun H => setHK H k .dead fun H => frzK n0 pk r ⟨env, H, F0, NF⟩ K)
/-- First what its cells lead to, then the object itself. -/
def deepK (H : List AO) (k : Nat) : List Nat := refsO (listH H k) ++ [k]
def frzOf (s : LS) (op : Op) : List Nat :=
  match op with
  | .buildSlice _ _ parts => parts.toList.flatMap fun p => (refsA (s.ev p.2)).flatMap (deepK s.H)
  | .store _ p x => match s.ev p with
    | .el _ _ _ => (refsA (s.ev x)).flatMap (deepK s.H)
    | _ => []
  | _ => []

def isPtr : AV → Bool
  | .ptr _ _ | .el _ _ _ | .ifp _ _ _ => true
  | _ => false
/-- What is handed over, and what is only read. -/
def passOf (mode : Nat) (H : Nat → AO) (avs : List AV) : List Nat :=
  match mode with
  | 0 => []
  | 1 =>
    let p := dedup ((avs.filter isPtr).flatMap refsA)
    dedup (p ++ p.flatMap fun k => refsO (H k))
  | _ =>
    let p := dedup (avs.flatMap refsA)
    dedup (p ++ p.flatMap fun k => refsO (H k))
def nodupB : List Nat → Bool
  | [] => true
  | k :: r => !r.contains k && nodupB r
def isAlive : AO → Bool
  | .dead => false
  | _ => true

/-- The state behind a call. -/
def retK (s : LS) (d : Option Tmp) (ρc frz : List Nat) (r : AV) (hs : List AO) (nF : List Fam) (K : LS → Prop) : Prop :=
  match s, ρc, frz with
  | ⟨env, H, F0, NF⟩, [], [] => snocK H (hs.map (mapO (backF [] H.length))) fun H' => appK NF nF fun NF => putK ⟨env, H', F0, NF⟩ d (mapR (backF [] H.length) r) K
  | ⟨env, H, F0, NF⟩, ρc, frz => mapK (mapR (oldRef ρc frz (listH H) hs)) env fun env => mapOK id ((List.range (H.length + (hs.length - ρc.length))).map (retH ρc frz (listH H) H.length hs)) fun H' => appK NF nF fun NF =>
      putK ⟨env, H', F0, NF⟩ d (mapR (backF ρc H.length) r) K

def natK : List Nat → (List Nat → Prop) → Prop
  | [], k => k []
  | x :: t, k => natK t fun t => k (x :: t)
/-- The same where the numbers may be given in other words. -/
def natX (l : List Nat) (k : List Nat → Prop) : Prop := ∃ l', l = l' ∧ natK l' k
theorem natK_out : ∀ {l : List Nat} {k : List Nat → Prop}, natK l k → k l
  | [], _, h => h
  | _ :: t, _, h => natK_out (l := t) h
theorem natX_out {l : List Nat} {k : List Nat → Prop} (h : natX l k) : k l := by
  obtain ⟨l', rfl, h⟩ := h
  exact natK_out h
/-- What is only read, and handed back as such, is no longer to be written. -/
def aliK (al : Bool) (n0 : Nat) (vs : List Nat) (X : List Nat → Prop) : Prop := match al with
  | false => X []
  | true => vs.all (fun k => decide (n0 ≤ k)) = true ∧ X vs
theorem aliK_out {al : Bool} {n0 : Nat} {vs : List Nat} {X : List Nat → Prop} (h : aliK al n0 vs X) : (al = true → vs.all (fun k => decide (n0 ≤ k)) = true) ∧ X (if al then vs else []) := by
  cases al with
  | true => exact ⟨fun _ => h.1, h.2⟩
  | false => exact ⟨fun h => (by cases h), h⟩
/-- What must stay in its block is not handed to one who may move it. -/
def fixL (fx : Bool) (n0 : Nat) (ρc : List Nat) (X : Prop) : Prop := match fx with
  | false => X
  | true => ρc.all (fun k => decide (n0 ≤ k)) = true ∧ X
theorem fixL_out {fx : Bool} {n0 : Nat} {ρc : List Nat} {X : Prop} (h : fixL fx n0 ρc X) : X ∧ (fx = true → ∀ k ∈ ρc, n0 ≤ k) := by
  cases fx with
  | false => exact ⟨h, fun h => by cases h⟩
  | true => exact ⟨h.2, fun _ k hk => by simpa using List.all_eq_true.1 h.1 k hk⟩
def fixP (fx : Bool) (n0 : Nat) (k : Option Nat) (X : Prop) : Prop := match fx with
  | false => X
  | true => match k with
    | none => X
    | some k => n0 ≤ k ∧ X
theorem fixP_out {fx : Bool} {n0 : Nat} {k : Option Nat} {X : Prop} (h : fixP fx n0 k X) : X ∧ (fx = true → ∀ j, k = some j → n0 ≤ j) := by
  cases fx with
  | false => exact ⟨h, fun h => by cases h⟩
  | true => cases k with
    | none => exact ⟨h, fun _ j h => by cases h⟩
    | some k => exact ⟨h.2, fun _ j e => by cases e; exact h.1⟩
/-- Nothing that is only read by this call lies in it: sure where there is no such thing. -/
def roFreeX : List Nat → AO → Prop
  | [], _ => True
  | _ :: _, o => roFreeO o
/-- Objects that were written in place: of the same make as before. -/
def sameK (vs : List Nat) : List AO → List AO → Prop → Prop
  | [], [], X => X
  | .iarr l :: r, .iarr l' :: t, X => l'.length = l.length ∧ sameK vs r t X
  | .arr z l :: r, .arr z' l' :: t, X => z' = z ∧ l'.length = l.length ∧ roFreeX vs (.arr z' l') ∧ sameK vs r t X
  | _, _, _ => False
/-- The state behind a call that writes in place. -/
def retInK (s : LS) (d : Option Tmp) (ρc vs : List Nat) (r : AV) (hs : List AO) (nF : List Fam) (K : LS → Prop) : Prop :=
  match s, r, nF with
  | ⟨env, H, F0, NF⟩, .val v, [] => sameK vs (ρc.map (listH H)) hs (updK H (ρc.zip hs) fun H => putK ⟨env, H, F0, NF⟩ d (.val v) K)
  | ⟨env, H, F0, NF⟩, .tup [], [] => sameK vs (ρc.map (listH H)) hs (updK H (ρc.zip hs) fun H => putK ⟨env, H, F0, NF⟩ d (.val (.tuple #[])) K)
  | _, _, _ => False
def callK (C : CT) (n0 : Nat) (pk : List Nat) (s : LS) (d : Option Tmp) (f : FuncId) (avs : List AV) (K : LS → Prop) : Prop :=
  match C.get f with
  | none => False
  | some ⟨_, mode, alias, con⟩ =>
    mapK (fun x => x) avs fun avs => natX (passOf mode (listH s.H) avs) fun ρc => natK ((dedup (avs.flatMap refsA)).filter fun k => !ρc.contains k) fun vs =>
      nodupB ρc = true ∧ ρc.all (fun k => isAlive (listH s.H k)) = true ∧ match mode with
      | 3 => offP pk ρc (con (avs.map (mapR (argView ρc vs (listH s.H)))) (calleeH ρc vs (listH s.H)) (s.F0 ++ s.NF) fun r hs nF => retInK s d ρc vs r hs nF K)
      | _ => fixL C.fx n0 ρc (aliK alias n0 vs fun frz =>
        offP pk (ρc ++ frz) (con (avs.map (mapR (argView ρc vs (listH s.H)))) (calleeH ρc vs (listH s.H)) (s.F0 ++ s.NF) fun r hs nF => retK s d ρc frz r hs nF K))

/-- One operation; the objects of 'pk' stay as they are. -/
def vcOp (T : TT) (C : CT) (n0 : Nat) (pk : List Nat) (o : Oper) (s : LS) (K : LS → Prop) : Prop :=
  match o.op with
  | .box _ _ | .alloc _ | .makeSlice _ _ _ => memA T (listH s.H) s.ev s.H.length o.op fun e => fixP C.fx n0 e.kill (offP pk (tchL e) (effK s o.dst e K))
  | .store _ _ _ | .buildSlice _ _ _ => frzK n0 pk (frzOf s o.op) s fun s => memA T (listH s.H) s.ev s.H.length o.op fun e => fixP C.fx n0 e.kill (offP pk (tchL e) (effK s o.dst e K))
  | .build _ _ | .slice _ _ _ _ _ => auxA T (listH s.H) s.ev o.op fun x => putK s o.dst x K
  | .makeFunc fn fi ca => match fn, fi.toList, ca.toList with
    | .func f, [], [x] => match s.ev x with
      | .ptr k 0 => match listH s.H k with
        | .cells _ => putK s o.dst (.clo f k) K
        | _ => False
      | _ => False
    | _, _, _ => False
  | .call { callee := .builtin .len, args := _, argTypes := _ } => auxA T (listH s.H) s.ev o.op fun x => putK s o.dst x K
  | .call { callee := .builtin .max, args := _, argTypes := _ } => auxA T (listH s.H) s.ev o.op fun x => putK s o.dst x K
  | .call { callee := .builtin .append, args := _, argTypes := _ } => memA T (listH s.H) s.ev s.H.length o.op fun e => fixP C.fx n0 e.kill (offP pk (tchL e) (effK s o.dst e K))
  | .call { callee := .builtin .copy, args := _, argTypes := _ } => memA T (listH s.H) s.ev s.H.length o.op fun e => fixP C.fx n0 e.kill (offP pk (tchL e) (effK s o.dst e K))
  | .call { callee := .value (.tmp t), args, argTypes := _ } => match s.env.getD t .any with
    | .val (.func (.func f) x y) => x = #[] ∧ y = #[] ∧ callK C n0 pk s o.dst f (args.toList.map s.ev) K
    | _ => False
  | .call { callee := .value (.func f), args, argTypes := _ } => callK C n0 pk s o.dst f (args.toList.map s.ev) K
  | .call { callee := .invoke r nm, args, argTypes := _ } => match s.ev r with
    | .ifp t k off => match C.me t nm with
      | some (f, true, _) => callK C n0 pk s o.dst f (.ptr k off :: args.toList.map s.ev) K
      | some (f, false, e) => loadA T (listH s.H) (s.F0 ++ s.NF) e (.ptr k off) fun x => callK C n0 pk s o.dst f (x :: args.toList.map s.ev) K
      | none => False
    | _ => False
  | .move _ | .assign _ | .pick _ _ _ | .binOp _ _ _ _ _ | .unOp _ _ _ | .convert _ _ _ | .nilCheck _ | .fieldAddr _ _ _ | .load _ _ | .indexAddr _ _ _ | .extract _ _ | .index _ _ _ | .makeInterface _ _ | .typeAssert _ _ _ _ =>
    valA T (listH s.H) (s.F0 ++ s.NF) o.op (o.op.operands.toList.map s.ev) fun x => putK s o.dst x K
  | _ => False

/-- An operation that only reckons or reads, what it reads being in 'pk' or only read by all. -/
def vcVal (T : TT) (pk : List Nat) (o : Oper) (s : LS) (K : LS → Prop) : Prop :=
  match o.op with
  | .build _ _ | .slice _ _ _ _ _ => auxA T (listH s.H) s.ev o.op fun x => putK s o.dst x K
  | .call { callee := .builtin .len, args := _, argTypes := _ } => auxA T (listH s.H) s.ev o.op fun x => putK s o.dst x K
  | .load _ x | .convert _ _ x => (match refOf (s.ev x) with
    | none => True
    | some k => pk.contains k = true) ∧ valA T (listH s.H) (s.F0 ++ s.NF) o.op (o.op.operands.toList.map s.ev) fun x => putK s o.dst x K
  | .move _ | .assign _ | .pick _ _ _ | .binOp _ _ _ _ _ | .unOp _ _ _ | .nilCheck _ | .fieldAddr _ _ _ | .indexAddr _ _ _ | .extract _ _ | .index _ _ _ | .makeInterface _ _ | .typeAssert _ _ _ _ =>
    valA T (listH s.H) (s.F0 ++ s.NF) o.op (o.op.operands.toList.map s.ev) fun x => putK s o.dst x K
  | .call { callee := .builtin .max, args := _, argTypes := _ } => auxA T (listH s.H) s.ev o.op fun x => putK s o.dst x K
  | _ => False

/-- A slot whose truth value is now known. -/
def setB (s : LS) (d : Tmp) (b : Bool) (K : LS → Prop) : Prop :=
  match s with
  | ⟨env, H, F0, NF⟩ => setK env d (.val (.bool b)) fun env => K ⟨env, H, F0, NF⟩
def setC (s : LS) (c : Operand) (b : Bool) (K : LS → Prop) : Prop :=
  match c with
  | .tmp d => setB s d b K
  | _ => K s
/-- An operation under its guard: carried out by X, or passed over. -/
def vcG (ops : Array Oper) (o : Oper) (X : LS → (LS → Prop) → Prop) (s : LS) (K : LS → Prop) : Prop :=
  match o.guard with
  | none => X s K
  | some (j, want) => match (ops[j]?).bind (·.dst) with
    | none => False
    | some d => match s.env.getD d .any with
      | .val (.bool b) => brK b (setB s d true fun s => if want then X s K else putK s o.dst (.val (.tuple #[])) K) (setB s d false fun s => if want then putK s o.dst (.val (.tuple #[])) K else X s K)
      | .val (.tuple _) => putK s o.dst (.val (.tuple #[])) K
      | _ => False

/-- The operations of a region in the order of the text; 'ops' holds all, for the guards. -/
def vcOps (T : TT) (C : CT) (n0 : Nat) (ops : Array Oper) : List Oper → LS → (LS → Prop) → Prop
  | [], s, K => K s
  | o :: r, s, K => vcG ops o (vcOp T C n0 [] o) s fun s => vcOps T C n0 ops r s K

/-- The order in which a region that draws its order is looked at: 'take': an operation that only reads, ahead of all others; 'run': the only one that can come; 'two', 'three': one of these comes. -/
inductive Plan where
  | done
  | take (i : Nat) (p : Plan)
  | run (i : Nat) (p : Plan)
  | two (i : Nat) (p : Plan) (j : Nat) (q : Plan)
  | three (i : Nat) (p : Plan) (j : Nat) (q : Plan) (k : Nat) (r : Plan)

/-- Both ways. -/
structure Both (X Y : Prop) : Prop where
  l : X
  r : Y
def vcPlan (T : TT) (C : CT) (n0 : Nat) (pk tl : List Nat) (ops : Array Oper) : Plan → LS → (LS → Prop) → Prop
  | .done, s, K => K s
  | .take i p, s, K => match ops[i]? with
    | none => False
    | some o => vcG ops o (vcVal T pk o) s fun s => vcPlan T C n0 pk tl ops p s K
  | .run i p, s, K => match ops[i]? with
    | none => False
    | some o => vcG ops o (vcOp T C n0 (if tl.contains i then [] else pk) o) s fun s => vcPlan T C n0 pk tl ops p s K
  | .two i p j q, s, K => match ops[i]?, ops[j]? with
    | some o, some o' => Both (vcG ops o (vcOp T C n0 (if tl.contains i then [] else pk) o) s fun s => vcPlan T C n0 pk tl ops p s K) (vcG ops o' (vcOp T C n0 (if tl.contains j then [] else pk) o') s fun s => vcPlan T C n0 pk tl ops q s K)
    | _, _ => False
  | .three i p j q k r, s, K => match ops[i]?, ops[j]?, ops[k]? with
    | some o, some o', some o'' => Both (vcG ops o (vcOp T C n0 (if tl.contains i then [] else pk) o) s fun s => vcPlan T C n0 pk tl ops p s K) (Both (vcG ops o' (vcOp T C n0 (if tl.contains j then [] else pk) o') s fun s => vcPlan T C n0 pk tl ops q s K)
        (vcG ops o'' (vcOp T C n0 (if tl.contains k then [] else pk) o'') s fun s => vcPlan T C n0 pk tl ops r s K))
    | _, _, _ => False

/-- The entry and what the condition knows of it. -/
def Entry.At (E : Entry) (n0 : Nat) (C : CT) : Prop := E.n0 = n0 ∧ (E.fx = true → C.fx = true)
/-- What is asked of the table of contracts. -/
def COk1 (P : Program) (C : CT) : Prop := ∀ f con, C.get f = some con → Keeps' P f con ∧ ∃ fn, P.funcs[f]? = some fn ∧ (fn.name == "runtime.NumGoroutine") = false ∧ fn.body.isNone = false
def CellAt (c : Ctx) (b : Nat) (x : AV) : Prop := ∃ v T, c.w.heap[b]? = some (.cells #[v] T (0, 0)) ∧ v.oneCell' = true ∧ RepV c x v
/-- The iterator f over its variable in block b: n rounds; between two of them it writes its variable or nothing. -/
def IterC (P : Program) (f : FuncId) (n : Nat) (args : Nat → List Value) (cell : Nat → AV) : Prop :=
  ∀ (b l : Nat) (J Jm : Nat → World → Prop) (Jx : World → Prop) (W : World),
    (∀ i W, J i W → ∃ c : Ctx, c.w = W ∧ CellAt c b (cell i)) → (∀ i W, i < n → Jm i W → ∃ c : Ctx, c.w = W ∧ CellAt c b (cell i)) →
    (∀ i W, i < n → J i W → YieldAt Fence.wide 0 P l (args i).toArray W fun e W' => (e = .returned (.bool true) ∧ Jm i W') ∨ (e = .returned (.bool false) ∧ Jx W')) →
    (∀ i W u v T, i < n → Jm i W → W.heap[b]? = some (.cells #[u] T (0, 0)) → v.oneCell' = true → (∀ c : Ctx, RepV c (cell (i + 1)) v) → J (i + 1) (W.setRow b #[v])) →
    (∀ i W, i < n → Jm i W → cell (i + 1) = cell i → J (i + 1) W) → J 0 W →
    CallsIn Fence.wide 0 P f (#[.func (.yield l) #[] #[]] ++ #[.pointer (some ⟨b, 0, none⟩)]) W fun e W' => (∃ v, e = .returned v) ∧ (J n W' ∨ Jx W')
def COk2 (P : Program) (C : CT) : Prop := ∀ f it, C.it f = some it → (∀ args w, (callFunc f args).run P w = .ok (.enter f args) w) ∧ ∀ c0 n args cell, it c0 n args cell → cell 0 = c0 ∧ IterC P f n args cell
/-- A method found by its name behind a pointer. -/
def MethOk (P : Program) (t : TypeId) (nm : String) : FuncId × Bool × TypeId → Prop
  | (f, true, _) => ∀ (a : Addr) args w, (callMethod (.iface t (.pointer (some a))) nm args).run P w = (callFunc f (#[.pointer (some a)] ++ args)).run P w
  | (f, false, e) => ∀ (a : Addr) args w, (callMethod (.iface t (.pointer (some a))) nm args).run P w = ((loadVar e a).run P w).andThen fun v w => (callFunc f (#[v] ++ args)).run P w
def COk3 (P : Program) (C : CT) : Prop := ∀ t nm m, C.me t nm = some m → MethOk P t nm m
def COk (P : Program) (C : CT) : Prop := COk1 P C ∧ COk2 P C ∧ COk3 P C

inductive Ex where
  | normal
  | exit (id : Nat)
  | ret

/-- 's1' says no more than 's2': object j of s1 is object σ j of s2; what s1 does not name is only read from here on. -/
def lref (n0 : Nat) (σ : List Nat) (H2 : Nat → AO) (r : AV) : AV :=
  match refOf r with
  | none => r
  | some k => match σ.idxOf? k with
    | some j => reIdx j r
    | none => if n0 ≤ k then roView (H2 k) r else .any
def leV (x y : AV) : Prop :=
  match x, y with
  | .any, _ => True
  | .ints l, .val (.slice none 0 0) => l = []
  | .sl _ l, .val (.slice none 0 0) => l = []
  | .ints l, .ints l' => l = l'
  | .bytes l, .bytes l' => l = l'
  | .sl z l, .sl z' l' => z = z' ∧ l = l'
  | .zsl z l, .zsl z' l' => z = z' ∧ l = l'
  | .val (.int k a), .val (.int k' b) => k = k' ∧ a = b
  | .val (.bool a), .val (.bool b) => a = b
  | x, y => x = y
def leE : List AV → List AV → Prop
  | [], [] => True
  | .any :: r, _ :: t => leE r t
  | x :: r, y :: t => leV x y ∧ leE r t
  | _, _ => False
def leO (x y : AO) : Prop :=
  match x, y with
  | .dead, .dead => True
  | .cells cs, .cells ds => leE cs ds
  | .iarr l, .iarr l' => l = l'
  | .arr z l, .arr z' l' => z = z' ∧ l = l'
  | x, y => x = y
def leH : List AO → List AO → Prop
  | [], [] => True
  | x :: r, y :: t => leO x y ∧ leH r t
  | _, _ => False
def relH (n0 : Nat) (σ : List Nat) (H : Nat → AO) : List AO := σ.map fun k => mapO (lref n0 σ H) (H k)
def startsB (σ : List Nat) (n0 : Nat) : Bool := (List.range n0).all fun i => σ[i]? == some i
/-- The same, laid out one behind the other. -/
def leVK (x y : AV) (X : Prop) : Prop :=
  match x, y with
  | .any, _ => X
  | .ints l, .val (.slice none 0 0) => l = [] ∧ X
  | .sl _ l, .val (.slice none 0 0) => l = [] ∧ X
  | .ints l, .ints l' => l = l' ∧ X
  | .bytes l, .bytes l' => l = l' ∧ X
  | .sl z l, .sl z' l' => z = z' ∧ l = l' ∧ X
  | .zsl z l, .zsl z' l' => z = z' ∧ l = l' ∧ X
  | .val (.int k a), .val (.int k' b) => k = k' ∧ a = b ∧ X
  | .val (.bool a), .val (.bool b) => a = b ∧ X
  | x, y => x = y ∧ X
def leEK : List AV → List AV → Prop → Prop
  | [], [], X => X
  | x :: r, y :: t, X => leVK x y (leEK r t X)
  | _, _, _ => False
def leOK (x y : AO) (X : Prop) : Prop :=
  match x, y with
  | .dead, .dead => X
  | .cells cs, .cells ds => leEK cs ds X
  | .iarr l, .iarr l' => l = l' ∧ X
  | .arr z l, .arr z' l' => z = z' ∧ l = l' ∧ X
  | x, y => x = y ∧ X
def leHK : List AO → List AO → Prop → Prop
  | [], [], X => X
  | x :: r, y :: t, X => leOK x y (leHK r t X)
  | _, _, _ => False
theorem leVK_out {x y : AV} {X : Prop} (h : leVK x y X) : leV x y ∧ X := by
  unfold leVK at h
  unfold leV
  split at h
  case h_6 => exact ⟨⟨h.1, h.2.1⟩, h.2.2⟩
  case h_7 => exact ⟨⟨h.1, h.2.1⟩, h.2.2⟩
  case h_8 => exact ⟨⟨h.1, h.2.1⟩, h.2.2⟩
  all_goals first
    | exact ⟨trivial, h⟩
    | exact h
    | skip
theorem leEK_out : ∀ {xs ys : List AV} {X : Prop}, leEK xs ys X → leE xs ys ∧ X
  | [], [], _, h => ⟨trivial, h⟩
  | x :: r, y :: t, X, h => by
    obtain ⟨h1, h2⟩ := leVK_out h
    obtain ⟨h3, h4⟩ := leEK_out h2
    refine ⟨?_, h4⟩
    cases x <;> first | exact ⟨h1, h3⟩ | exact h3
  | [], _ :: _, _, h => h.elim
  | _ :: _, [], _, h => h.elim
theorem leOK_out {x y : AO} {X : Prop} (h : leOK x y X) : leO x y ∧ X := by
  unfold leOK at h
  unfold leO
  split at h
  · exact ⟨trivial, h⟩
  · exact leEK_out h
  · exact h
  · exact ⟨⟨h.1, h.2.1⟩, h.2.2⟩
  · exact h
theorem leHK_out : ∀ {xs ys : List AO} {X : Prop}, leHK xs ys X → leH xs ys ∧ X
  | [], [], _, h => ⟨trivial, h⟩
  | x :: r, y :: t, X, h => by
    obtain ⟨h1, h2⟩ := leOK_out h
    obtain ⟨h3, h4⟩ := leHK_out h2
    exact ⟨⟨h1, h3⟩, h4⟩
  | [], _ :: _, _, h => h.elim
  | _ :: _, [], _, h => h.elim
def LeS (n0 : Nat) (σ : List Nat) (s1 s2 : LS) : Prop :=
  nodupB σ = true ∧ startsB σ n0 = true ∧ leEK s1.env (s2.env.map (mapR (lref n0 σ (listH s2.H)))) (leHK s1.H (relH n0 σ (listH s2.H)) (s1.F0 = s2.F0 ∧ s1.NF = s2.NF))

/-- A state brought to its head form. -/
def forceS (s : LS) (K : LS → Prop) : Prop := match s with
  | ⟨env, H, F0, NF⟩ => mapK (fun x => x) env fun env => mapOK (fun o => o) H fun H => K ⟨env, H, F0, NF⟩
def Loop (n0 : Nat) (V : LS → (Ex → LS → Prop) → Prop) (s : LS) (K : Ex → LS → Prop) : Prop :=
  ∃ (ι : Type) (mk : ι → LS) (J : ι → Prop) (m : ι → Nat), (∃ g σ, J g ∧ LeS n0 σ (mk g) s) ∧
    ∀ g, J g → forceS (mk g) fun s => V s fun e s' => match e with
      | .normal => ∃ g' σ, J g' ∧ m g' < m g ∧ LeS n0 σ (mk g') s'
      | e => K e s'

/-- A region that draws its order: left to rules of its own. -/
structure Draw (T : TT) (C : CT) (n0 : Nat) (id : Nat) (ops : Array Oper) (s : LS) (K : LS → Prop) : Prop where
  out : ∀ (P : Program) (Q : Exit → Act → World → Prop) (E : Entry) (a : Act) (w : World) (ρ : Nat → Nat) (A : FA), TOk P T → COk P C → E.At n0 C → E.n0 ≤ s.H.length →
    Sat E s.toF s.env.length a w ρ A → (∀ s' a' w' ρ' A', K s' → E.n0 ≤ s'.H.length → Sat E s'.toF s'.env.length a' w' ρ' A' → Q .normal a' w') → (∀ c a w, ¬ Q (.panic c) a w) → ¬ LetsOut Q →
    wpAny P .any ops Q ops.size (Array.replicate ops.size false) a { w with drawn := w.drawn + 1 }
def Ex.to : Ex → Exit
  | .normal => .normal
  | .exit i => .exit i
  | .ret => .ret
/-- A range over a function: likewise. -/
structure Rng (T : TT) (C : CT) (n0 : Nat) (g : Operand) (ps : Array Tmp) (assign body : Code) (s : LS) (K : Ex → LS → Prop) : Prop where
  out : ∀ (P : Program) (Q : Exit → Act → World → Prop) (E : Entry) (a : Act) (w : World) (ρ : Nat → Nat) (A : FA), TOk P T → COk P C → P.follows .mixedOrders = true → E.At n0 C → E.n0 ≤ s.H.length →
    Sat E s.toF s.env.length a w ρ A → (∀ e s' a' w' ρ' A', K e s' → E.n0 ≤ s'.H.length → Sat E s'.toF s'.env.length a' w' ρ' A' → Q e.to a' w') → (Code.rangeFunc g ps assign body).wpIn Fence.wide 0 P Q a w

def vc (T : TT) (C : CT) (n0 : Nat) : Code → LS → (Ex → LS → Prop) → Prop
  | .skip, s, K => K .normal s
  | .region id ops draw, s, K => if draw then Draw T C n0 id ops s (K .normal) else vcOps T C n0 ops ops.toList s (K .normal)
  | .seq x y, s, K => vc T C n0 x s fun e s => match e with
    | .normal => vc T C n0 y s K
    | .exit i => K (.exit i) s
    | .ret => K .ret s
  | .cond c x y, s, K => match s.ev c with
    | .val (.bool b) => brK b (setC s c true fun s => vc T C n0 x s K) (setC s c false fun s => vc T C n0 y s K)
    | _ => False
  | .block id c, s, K => vc T C n0 c s fun e s => match e with
    | .normal => K .normal s
    | .exit i => if i = id then K .normal s else K (.exit i) s
    | .ret => K .ret s
  | .loop c, s, K => Loop n0 (vc T C n0 c) s K
  | .exit i, s, K => K (.exit i) s
  | .ret, s, K => K .ret s
  | .rangeFunc g ps x y, s, K => Rng T C n0 g ps x y s K
  | _, _, _ => False

/-- The results, read from their slots. -/
def resK (T : TT) (s : LS) : List ResultVar → (List AV → Prop) → Prop
  | [], K => K []
  | .tmp t :: r, K => forceA (s.env.getD t .any) fun x => resK T s r fun xs => K (x :: xs)
  | .cell t ty :: r, K => match s.env.getD t .any with
    | .ptr k off => loadA T (listH s.H) (s.F0 ++ s.NF) ty (.ptr k off) fun x => forceA x fun x => resK T s r fun xs => K (x :: xs)
    | _ => False
/-- Surely no tuple. -/
def notTup : AV → Bool
  | .any | .tup _ => false
  | .val (.tuple _) => false
  | _ => true

/-- What is handed back: the objects that came in, and the new ones that are still named. -/
def keepOf (n0 : Nat) (H : List AO) (r : AV) : List Nat :=
  let p := (dedup (refsR r ++ (H.take n0).flatMap refsO)).filter fun k => decide (n0 ≤ k)
  (dedup (p ++ p.flatMap fun k => refsO (listH H k))).filter fun k => decide (n0 ≤ k)
def roFreeB : AO → Bool
  | .dead | .iarr _ => true
  | .cells cs => cs.all roFreeC
  | .arr _ l => l.all fun e => e.all roFreeC
def roK (al : Bool) (r : AV) (hs : List AO) (nF : List Fam) (X : Prop) : Prop := match al with
  | true => X
  | false => (roFree r = true ∧ hs.all roFreeB = true ∧ nF = []) ∧ X
def finVC (n0 : Nat) (con : Con) (s : LS) (r : AV) (K : AV → List AO → List Fam → Prop) : Prop :=
  match s with
  | ⟨_, H, _, NF⟩ => natX (keepOf n0 H r) fun kept => natK (List.range n0 ++ kept) fun σ => forceA (mapR (lref n0 σ (listH H)) r) fun r' => mapOK (fun o => o) (relH n0 σ (listH H)) fun hs =>
    nodupB σ = true ∧ startsB σ n0 = true ∧ σ.length ≤ n0 + con.nnew ∧ roK con.alias r' hs NF (K r' hs NF)

def finK (T : TT) (n0 : Nat) (con : Con) (res : List ResultVar) (s : LS) (K : AV → List AO → List Fam → Prop) : Prop :=
  resK T s res fun
    | [x] => finVC n0 con s x K
    | xs => xs.all notTup = true ∧ finVC n0 con s (.tup xs) K

/-- The whole condition of a body. -/
def bodyVC (T : TT) (C : CT) (con : Con) (ntmps : Nat) (res : List ResultVar) (c : Code) (aargs : List AV) (hs : List AO) (Fs : List Fam) (K : AV → List AO → List Fam → Prop) : Prop :=
  vc T C hs.length c ⟨aargs ++ List.replicate (ntmps - aargs.length) .any, hs, Fs, []⟩ fun e s => match e with
    | .exit _ => False
    | _ => s.F0 = Fs ∧ finK T hs.length con res s K
end Go.Vc
namespace Go.Vc
variable {P : Program} {T : TT} {C : CT} {E : Entry} {w : World} {ρ : Nat → Nat} {A : FA} {s : LS} {a : Act} {o : Oper} {n0 : Nat} {Q : Exit → Act → World → Prop}

abbrev SatL (E : Entry) (s : LS) (a : Act) (w : World) (ρ : Nat → Nat) (A : FA) : Prop := Sat E s.toF s.env.length a w ρ A
/-- What an operation leaves: a state that K accepts; the objects of 'pk' as they were. -/
def Post (E : Entry) (s : LS) (ρ₀ : Nat → Nat) (w₀ : World) (pk : List Nat) (K : LS → Prop) : Act → World → Prop := fun a' w' => ∃ s', K s' ∧ E.n0 ≤ s'.H.length ∧ ∃ ρ A, SatL E s' a' w' ρ A ∧ Fr (listH s.H) ρ₀ w₀ (fun k => k ∉ pk) (listH s'.H) ρ w'
theorem Fr.mono {H H' : Nat → AO} {ρ ρ' : Nat → Nat} {w w' : World} {t t' : Nat → Prop} (h : Fr H ρ w t H' ρ' w') (ht : ∀ k, t k → t' k) : Fr H ρ w t' H' ρ' w' :=
  ⟨h.size, fun b hb hn => h.same b hb fun k ha hk => hn k ha (ht k hk), h.src, fun k ha hn => h.keep k ha fun hk => hn (ht k hk)⟩
theorem Fr.trans {H H' H'' : Nat → AO} {ρ ρ' ρ'' : Nat → Nat} {w w' w'' : World} {t : Nat → Prop} (h : Fr H ρ w t H' ρ' w') (h' : Fr H' ρ' w' t H'' ρ'' w'') : Fr H ρ w t H'' ρ'' w'' := by
  refine ⟨Nat.le_trans h.size h'.size, fun b hb hn => ?_, fun k hk => ?_, fun k ha hn => ?_⟩
  · rw [h'.same b (Nat.lt_of_lt_of_le hb h.size) fun k hk ht => ?_, h.same b hb hn]
    rcases h.src k hk with ⟨h1, h2⟩ | h1
    · rw [h2]; exact hn k h1 ht
    · omega
  · rcases h'.src k hk with ⟨h1, h2⟩ | h1
    · rcases h.src k h1 with ⟨h3, h4⟩ | h3
      · exact .inl ⟨h3, h2.trans h4⟩
      · exact .inr (by rw [h2]; exact h3)
    · exact .inr (Nat.le_trans h.size h1)
  · obtain ⟨h1, h2⟩ := h.keep k ha hn
    obtain ⟨h3, h4⟩ := h'.keep k h1 hn
    exact ⟨h3, h4.trans h2⟩

theorem forceC_out {x : AV} {k : AV → Prop} (h : forceC x k) : k x := by
  cases x with
  | ptr i o => exact litK_out (k := fun o => k (.ptr i o)) (litK_out (k := fun i => litK o fun o => k (.ptr i o)) h)
  | el i j o => exact litK_out (k := fun o => k (.el i j o)) (litK_out (k := fun i => litK o fun o => k (.el i j o)) h)
  | own i => exact litK_out (k := fun i => k (.own i)) h
  | sub i p q => exact litK_out (k := fun i => k (.sub i p q)) h
  | win i o n => exact litK_out (k := fun o => k (.win i o n)) (litK_out (k := fun i => litK o fun o => k (.win i o n)) h)
  | clo f i => exact litK_out (k := fun i => k (.clo f i)) h
  | ifp t i o => exact litK_out (k := fun o => k (.ifp t i o)) (litK_out (k := fun i => litK o fun o => k (.ifp t i o)) h)
  | rp f i o => exact litK_out (k := fun o => k (.rp f i o)) h
  | _ => exact h
theorem forceL_out : ∀ {l : List AV} {k : List AV → Prop}, forceL l k → k l
  | [], _, h => h
  | _ :: t, _, h => forceL_out (l := t) (forceC_out h)
theorem forceB_out {x : AV} {k : AV → Prop} (h : forceB x k) : k x := by
  have h := forceC_out h
  cases x with
  | agg cs => exact forceL_out h
  | _ => exact h
theorem forceM_out : ∀ {l : List AV} {k : List AV → Prop}, forceM l k → k l
  | [], _, h => h
  | _ :: t, _, h => forceM_out (l := t) (forceB_out h)
theorem forceA_out {x : AV} {k : AV → Prop} (h : forceA x k) : k x := by
  have h := forceB_out h
  cases x with
  | tup cs => exact forceM_out h
  | _ => exact h
theorem forceO_out {x : AO} {k : AO → Prop} (h : forceO x k) : k x := by
  cases x with
  | cells cs => exact forceL_out h
  | _ => exact h
theorem setK_out {α : Type} : ∀ {l : List α} {n : Nat} {v : α} {k : List α → Prop}, setK l n v k → k (l.set n v)
  | [], _, _, _, h => h
  | _ :: _, 0, _, _, h => h
  | _ :: t, n + 1, v, _, h => setK_out (l := t) (n := n) (v := v) h
theorem setHK_out : ∀ {l : List AO} {n : Nat} {v : AO} {k : List AO → Prop}, setHK l n v k → k (l.set n v) ∧ n < l.length
  | [], _, _, _, h => h.elim
  | _ :: _, 0, _, _, h => ⟨h, by simp⟩
  | _ :: t, n + 1, v, _, h => by
    have := setHK_out (l := t) (n := n) (v := v) h
    exact ⟨this.1, by simpa using this.2⟩
theorem mapK_out {f : AV → AV} : ∀ {l : List AV} {k : List AV → Prop}, mapK f l k → k (l.map f)
  | [], _, h => h
  | _ :: t, _, h => mapK_out (l := t) (forceA_out h)
theorem mapOK_out {f : AO → AO} : ∀ {l : List AO} {k : List AO → Prop}, mapOK f l k → k (l.map f)
  | [], _, h => h
  | _ :: t, _, h => mapOK_out (l := t) (forceO_out h)
theorem snocK_out : ∀ {l r : List AO} {k : List AO → Prop}, snocK l r k → k (l ++ r)
  | [], r, k, h => by
    have := mapOK_out (f := id) (l := r) h
    simpa using this
  | _ :: t, _, _, h => snocK_out (l := t) h
theorem appK_out : ∀ {l r : List Fam} {k : List Fam → Prop}, appK l r k → k (l ++ r)
  | [], _, _, h => h
  | _ :: t, _, _, h => appK_out (l := t) h

theorem listH_set {H : List AO} {n : Nat} {o : AO} (hn : n < H.length) : listH (H.set n o) = setH (listH H) n o := by
  funext i
  simp only [listH, setH, List.getD, List.getElem?_set]
  by_cases e : i = n
  · subst e; simp [hn]
  · have e' : ¬ n = i := fun h => e h.symm
    simp [e, e']
theorem listH_snoc {H : List AO} {o : AO} : listH (H ++ [o]) = setH (listH H) H.length o := by
  funext i
  simp only [listH, setH, List.getD]
  by_cases e : i = H.length
  · subst e; simp
  · rw [if_neg e]
    by_cases hlt : i < H.length
    · rw [List.getElem?_append_left hlt]
    · rw [List.getElem?_append_right (by omega), List.getElem?_eq_none (l := H) (by omega), List.getElem?_eq_none (by simp; omega)]
theorem listH_ext : ∀ {new : List AO} {H : List AO}, listH (H ++ new) = extH (listH H) H.length new
  | [], H => by simp [extH]
  | o :: r, H => by
    have := listH_ext (new := r) (H := H ++ [o])
    simp only [List.append_assoc, List.singleton_append, List.length_append, List.length_singleton] at this
    rw [this, listH_snoc]; rfl
theorem listH_map {f : AV → AV} {H : List AO} : listH (H.map (mapO f)) = fun i => mapO f (listH H i) := by
  funext i
  simp only [listH, List.getD, List.getElem?_map]
  cases H[i]? <;> rfl
theorem env_map {f : AV → AV} (hf : mapR f .any = .any) (l : List AV) : (fun t => (l.map (mapR f)).getD t .any) = fun t => mapR f (l.getD t .any) := by
  funext i
  simp only [List.getD, List.getElem?_map]
  cases l[i]? with
  | some x => rfl
  | none => simp [hf]
theorem listH_dead {H : List AO} {i : Nat} (h : H.length ≤ i) : listH H i = .dead := by simp [listH, List.getD, h]

theorem updK_out : ∀ {H : List AO} {upd : List (Nat × AO)} {k : List AO → Prop}, updK H upd k → ∃ H', k H' ∧ listH H' = updH (listH H) upd ∧ H'.length = H.length
  | H, [], _, h => ⟨H, h, rfl, rfl⟩
  | H, (i, o) :: r, k, h => by
    obtain ⟨h1, h2⟩ := setHK_out (forceO_out h)
    obtain ⟨H', h3, h4, h5⟩ := updK_out (upd := r) h1
    exact ⟨H', h3, by rw [h4, listH_set h2]; rfl, by simpa using h5⟩

theorem putK_out {d : Option Tmp} {x : AV} {K : LS → Prop} (h : putK s d x K) : ∃ s', K s' ∧ s'.toF = ⟨setE s.toF.env s.env.length d x, s.toF.H, s.toF.F⟩ ∧ s'.env.length = s.env.length ∧ s'.H = s.H := by
  obtain ⟨env, H, F0, NF⟩ := s
  unfold putK at h
  have h := forceA_out h
  cases d with
  | none => exact ⟨⟨env, H, F0, NF⟩, h, by simp only [LS.toF, FS.mk.injEq, and_true]; funext t; simp [setE], rfl, rfl⟩
  | some t =>
    refine ⟨_, setK_out h, ?_, by simp, rfl⟩
    simp only [LS.toF, FS.mk.injEq, and_true]
    funext i
    simp only [setE, List.getD, List.getElem?_set, Option.some.injEq]
    by_cases e : i = t
    · subst e
      by_cases hlt : i < env.length
      · simp [hlt]
      · simp [hlt]
    · have e' : ¬ t = i := fun h => e h.symm
      simp [e, e']

theorem setB_out {d : Tmp} {b : Bool} {K : LS → Prop} (hd : s.env.getD d .any = .val (.bool b)) (h : setB s d b K) : K s := by
  obtain ⟨env, H, F0, NF⟩ := s
  unfold setB at h
  have h := setK_out h
  have hd : env.getD d .any = .val (.bool b) := hd
  have e : env.set d (.val (.bool b)) = env := by
    have hlt : d < env.length := by
      rcases Nat.lt_or_ge d env.length with h1 | h1
      · exact h1
      · simp [List.getD, h1] at hd
    have : env[d] = .val (.bool b) := by simpa [List.getD, hlt] using hd
    rw [← this]
    exact List.set_getElem_self hlt
  rw [e] at h
  exact h
theorem setC_out {c : Operand} {b : Bool} {K : LS → Prop} (hd : s.ev c = .val (.bool b)) (h : setC s c b K) : K s := by
  cases c with
  | tmp d => exact setB_out hd h
  | _ => exact h

theorem effK_out {d : Option Tmp} {e : Eff} {K : LS → Prop} (h : effK s d e K) : ∃ s', K s' ∧ s'.toF = applyF s.toF s.env.length s.H.length d e ∧ s'.env.length = s.env.length ∧ s.H.length ≤ s'.H.length := by
  unfold effK at h
  split at h
  case h_3 => exact h.elim
  case h_1 env H F0 NF val upd new =>
    obtain ⟨H', h1, h2, h3⟩ := updK_out h
    have h4 := snocK_out h1
    obtain ⟨s', hK, h5, h6, h7⟩ := putK_out h4
    refine ⟨s', hK, ?_, h6, by rw [h7]; simp [h3]⟩
    rw [h5]
    simp only [LS.toF, applyF, killE, killH, addF]
    rw [listH_ext, h2, h3]
  case h_2 env H F0 NF val k upd new =>
    have h0 := mapOK_out (mapK_out h)
    obtain ⟨H', h1, h2, h3⟩ := updK_out h0
    have h4 := snocK_out h1
    obtain ⟨s', hK, h5, h6, h7⟩ := putK_out h4
    refine ⟨s', hK, ?_, by simpa using h6, by rw [h7]; simp [h3]⟩
    rw [h5]
    simp only [LS.toF, applyF, killE, killH, addF, List.length_map]
    rw [listH_ext, h2, h3, listH_map, env_map (by rfl), List.length_map]

theorem ev_rep (h : SatL E s a w ρ A) (x : Operand) : RepV (ctxOf E s.toF.H w ρ A) (s.ev x) (a.eval x) := by
  cases x with
  | tmp t => exact h.env t
  | const v => exact .val v
  | global g => exact .val _
  | func f => exact .val _

/-- An object becomes memory that is only read. -/
theorem Sat.freeze {S : FS} {tm k : Nat} (h : Sat E S tm a w ρ A) (hk : E.n0 ≤ k) : Sat E ⟨fun t => mapR (frzF k (S.H k)) (S.env t), mapH (frzF k (S.H k)) S.H k .dead, S.F⟩ tm a w ρ A := by
  have st : StepOk E S.H w ρ A k .dead (ρ k) w (mapH (frzF k (S.H k)) S.H k .dead) :=
    ⟨rfl, rfl, rfl, Nat.le_refl _, fun _ _ _ => rfl, fun h => absurd rfl h, fun i hi => by simp [alive, mapH, hi, mapO_dead], by simp [mapH], fun _ h => (by cases h), fun _ _ h => absurd rfl h, fun _ _ _ vs T fr h => ⟨vs, T, fr, h, Nat.le_refl _⟩⟩
  have kp := st.keeps h.toSatW
  have := h.stepMap (frzF k (S.H k)) st (fun r hr => by simp [frzF, hr]) trivial (fun r v hr hv => by
    have hal : alive S.H k := by
      obtain ⟨k', hk', ha⟩ := RepO.alive_of (by cases r <;> simp_all [refOf, isRef]) hv
      rw [hr] at hk'
      cases hk'
      exact ha
    simp only [frzF, hr, if_true]
    have hp := h.place k hal
    refine roView_rep hr hv (h.obj k) kp (.inr ⟨?_, hp.1, fun j hj => ?_, h.alive_unfr hal⟩) rfl
    · rcases hp.2 with h1 | h1
      · exact h1
      · omega
    · rw [setρ_self]
      intro e
      by_cases hjk : j = k
      · subst hjk; exact hj (by simp [mapH])
      · have hj' : alive S.H j := by
          have : mapH (frzF k (S.H k)) S.H k .dead j ≠ .dead := hj
          simpa [mapH, hjk, mapO_dead] using this
        exact hjk (h.inj j k hj' hal e))
  rw [setρ_self] at this
  exact this

def extA (A : FA) (b : Nat) : FA := ⟨fun g i => if g = A.n then b else A.at_ g i, A.n + 1⟩
/-- An object becomes a family: it is only read from now on. -/
theorem Sat.famz {S : FS} {tm k : Nat} (h : Sat E S tm a w ρ A) (hk : E.n0 ≤ k) {cs : List AV} (hc : S.H k = .cells cs) (hp : cs.all pureB = true) :
    Sat E ⟨fun t => mapR (famF k S.F.length) (S.env t), mapH (famF k S.F.length) S.H k .dead, S.F ++ [⟨none, [cs]⟩]⟩ tm a w ρ (extA A (ρ k)) := by
  have hal : alive S.H k := by rw [alive, hc]; simp
  have hpl := h.place k hal
  have halv : ∀ i, alive (mapH (famF k S.F.length) S.H k .dead) i → i ≠ k ∧ alive S.H i := by
    intro i hi
    unfold alive mapH at hi
    split at hi
    · exact absurd rfl hi
    · rename_i e
      exact ⟨e, fun hd => hi (mapO_dead.2 hd)⟩
  have kp : Keeps (ctxOf E S.H w ρ A) (ctxOf E (mapH (famF k S.F.length) S.H k .dead) w ρ (extA A (ρ k))) := by
    refine ⟨fun b hb => ?_, fun _ _ => rfl, fun _ hb => hb, fun _ _ => rfl, ⟨Nat.le_succ _, fun f hf => ?_⟩⟩
    · rcases hb with hb | ⟨h1, h2, h3, h4⟩
      · exact .inl hb
      · exact .inr ⟨h1, h2, fun i hi => h3 i (halv i hi).2, h4⟩
    · funext i
      have hf : f < A.n := hf
      show (if f = A.n then _ else _) = _
      rw [if_neg (by omega)]
  have hok : okOf E (mapH (famF k S.F.length) S.H k .dead) w ρ (ρ k) := by
    refine .inr ⟨?_, hpl.1, fun i hi e => ?_, h.alive_unfr hal⟩
    · rcases hpl.2 with h1 | h1
      · exact h1
      · omega
    · obtain ⟨h1, h2⟩ := halv i hi
      exact h1 (h.inj i k h2 hal e)
  have href : ∀ r v, isRef r = true → RepV (ctxOf E S.H w ρ A) r v → RepV (ctxOf E (mapH (famF k S.F.length) S.H k .dead) w ρ (extA A (ρ k))) (famF k S.F.length r) v := by
    intro r v hr hv
    obtain ⟨i, hi, ha⟩ := RepO.alive_of hr hv
    by_cases e : i = k
    · subst e
      have hff : famF i S.F.length r = famP S.F.length r := by unfold famF; rw [if_pos hi]
      rw [hff]
      cases hv with
      | ptr k' off cs' hk' =>
        have hi : k' = i := by simpa [refOf] using hi
        subst hi
        have := RepV.rp (c := ctxOf E (mapH (famF k' S.F.length) S.H k' .dead) w ρ (extA A (ρ k'))) S.F.length 0 off (by show S.F.length < A.n + 1; rw [h.fl]; exact Nat.lt_succ_self _)
        have e2 : (extA A (ρ k')).at_ S.F.length 0 = ρ k' := by
          show (if S.F.length = A.n then _ else _) = _
          rw [if_pos h.fl]
        have e3 : (ctxOf E (mapH (famF k' S.F.length) S.H k' .dead) w ρ (extA A (ρ k'))).A.at_ S.F.length 0 = ρ k' := e2
        rw [e3] at this
        exact this
      | _ => exact .any _
    · have hff : famF k S.F.length r = r := by unfold famF; rw [if_neg (by rw [hi]; simpa using e)]
      rw [hff]
      refine hv.ref_other hi rfl (by simp [mapH, e, mapO_info]) (fun cs' hcs => ⟨cs'.map (mapC (famF k S.F.length)), ?_⟩) fun vs T fr hb => ⟨vs, T, fr, hb, Nat.le_refl _⟩
      have hcs' : S.H i = .cells cs' := hcs
      simp [mapH, e, hcs', mapO]
  refine { os := h.os, tape := h.tape, output := h.output, size := h.size, frame := h.frame, okB := h.okB, zB := h.zB, fl := by simp [extA, h.fl], nf := Nat.le_trans h.nf (Nat.le_succ _), tsize := h.tsize, defers := h.defers.move kp, pins := h.pins, grow := h.grow,
           place := fun i hi => h.place i (halv i hi).2, inj := fun i j hi hj => h.inj i j (halv i hi).2 (halv j hj).2, stay := ?_, fix := fun hfx i hi ha => h.fix hfx i hi (halv i ha).2, A0 := fun f hf => ?_, obj := ?_, fam := ?_, env := fun t => (h.env t).move kp _ href }
  · intro i ds hi hds
    have hds : mapH (famF k S.F.length) S.H k .dead i = .cells ds := hds
    unfold mapH at hds
    split at hds
    · cases hds
    · cases hH : S.H i with
      | cells cs' => exact h.stay i cs' hi hH
      | dead => rw [hH] at hds; simp [mapO] at hds
      | iarr l => rw [hH] at hds; simp [mapO] at hds
      | arr sz l => rw [hH] at hds; simp [mapO] at hds
  · intro i
    show RepO (ctxOf E (mapH (famF k S.F.length) S.H k .dead) w ρ (extA A (ρ k))) i (mapH (famF k S.F.length) S.H k .dead i)
    by_cases e : i = k
    · have : mapH (famF k S.F.length) S.H k .dead i = .dead := by simp [mapH, e]
      rw [this]; trivial
    · have : mapH (famF k S.F.length) S.H k .dead i = mapO (famF k S.F.length) (S.H i) := by simp [mapH, e]
      rw [this]
      exact (h.obj i).move kp _ href rfl
  · rw [← h.A0 f hf]
    have hlt := Nat.lt_of_lt_of_le hf h.nf
    funext i
    show (if f = A.n then _ else _) = _
    rw [if_neg (by omega)]
  · intro f fam hf
    by_cases hlt : f < S.F.length
    · rw [List.getElem?_append_left hlt] at hf
      exact (h.fam f fam hf).move kp (h.fam_lt hf)
    · rw [List.getElem?_append_right (by omega)] at hf
      have hf0 : f = S.F.length := by
        have := (List.getElem?_eq_some_iff.1 hf).1
        simp at this
        omega
      subst hf0
      simp only [Nat.sub_self, List.getElem?_cons_zero, Option.some.injEq] at hf
      subst hf
      have hat : ∀ i, (ctxOf E (mapH (famF k S.F.length) S.H k .dead) w ρ (extA A (ρ k))).A.at_ S.F.length i = ρ k := fun i => by
        show (if S.F.length = A.n then _ else _) = _
        rw [if_pos h.fl]
      have ho := h.obj k
      rw [hc] at ho
      obtain ⟨vs, T, o1, o2, o3, o4⟩ := ho
      have o1 : w.heap[ρ k]? = some (.cells vs T (0, 0)) := o1
      refine ⟨fun i ds hi => ?_, fun i j hi hj _ => by simp at hi hj; omega, fun g hg => (by cases hg), fun _ i ds hi => ⟨vs, T, by rw [hat]; exact o1⟩⟩
      cases i with
      | succ i => simp at hi
      | zero =>
        simp only [List.getElem?_cons_zero, Option.some.injEq] at hi
        subst hi
        rw [hat]
        refine ⟨.inl hok, fun j => vs.toList.getD j undef, fun j x hj => ?_⟩
        have hjl : j < vs.size := by rw [o2]; exact (List.getElem?_eq_some_iff.1 hj).1
        have hvj : vs[j]? = some vs[j] := Array.getElem?_eq_getElem hjl
        have ev : vs.toList.getD j undef = vs[j] := by simp [List.getD, hjl]
        have hpx : pureB x = true := List.all_eq_true.1 hp x (List.mem_of_getElem? hj)
        show _ = some (vs.toList.getD j undef) ∧ _ ∧ (vs.toList.getD j undef).oneCell' = true ∧ RepV _ x (vs.toList.getD j undef)
        rw [ev]
        refine ⟨?_, hpx, o3 _ (by simp), (o4 j x _ hj hvj).pure_move kp (pureA_of_pureB hpx)⟩
        show w.cell? _ = _
        rw [cell_of_row w _ _ vs T (0, 0) o1]
        exact hvj
theorem frzK_out (hn0 : E.n0 = n0) {pk : List Nat} : ∀ {ks : List Nat} {s : LS} {K : LS → Prop}, frzK n0 pk ks s K → ∀ {A}, SatL E s a w ρ A → ∃ s' A', K s' ∧ SatL E s' a w ρ A' ∧ s'.env.length = s.env.length ∧ s'.H.length = s.H.length ∧ Fr (listH s.H) ρ w (fun k => k ∉ pk) (listH s'.H) ρ w
  | [], s, K, h, A, hs => ⟨s, A, h, hs, rfl, rfl, .refl⟩
  | k :: r, ⟨env, H, F0, NF⟩, K, h, A, hs => by
    have step : ∀ (f : AV → AV) (NF' : List Fam) (A1 : FA), k ∉ pk → k < H.length → (mapR f .any = .any) → (∀ S : FS, S = ⟨fun t => mapR f (env.getD t .any), mapH f (listH H) k .dead, F0 ++ NF'⟩ → Sat E S env.length a w ρ A1) →
        frzK n0 pk r ⟨env.map (mapR f), (H.map (mapO f)).set k .dead, F0, NF'⟩ K → ∃ s' A', K s' ∧ SatL E s' a w ρ A' ∧ s'.env.length = env.length ∧ s'.H.length = H.length ∧ Fr (listH H) ρ w (fun k => k ∉ pk) (listH s'.H) ρ w := by
      intro f NF' A1 hkp h2 hf hs' h1
      have h2 : k < (H.map (mapO f)).length := by simpa using h2
      have e : (⟨env.map (mapR f), (H.map (mapO f)).set k .dead, F0, NF'⟩ : LS).toF = ⟨fun t => mapR f (env.getD t .any), mapH f (listH H) k .dead, F0 ++ NF'⟩ := by
        simp only [LS.toF, FS.mk.injEq, and_true]
        refine ⟨?_, ?_⟩
        · rw [env_map hf]
        · rw [listH_set h2, listH_map]; rfl
      obtain ⟨s', A', h3, h4, h5, h6, h7⟩ := frzK_out (s := ⟨env.map (mapR f), (H.map (mapO f)).set k .dead, F0, NF'⟩) hn0 h1 (by
        unfold SatL
        have el : (⟨env.map (mapR f), (H.map (mapO f)).set k .dead, F0, NF'⟩ : LS).env.length = env.length := by simp
        rw [el]
        exact hs' _ e)
      have eH := congrArg FS.H e
      have eH : listH ((H.map (mapO f)).set k .dead) = mapH f (listH H) k .dead := eH
      refine ⟨s', A', h3, h4, by simpa using h5, by simpa using h6, Fr.trans ⟨Nat.le_refl _, fun _ _ _ => rfl, fun i hi => .inl ⟨?_, rfl⟩, fun i hi hn => ⟨?_, rfl⟩⟩ h7⟩
      · show alive (listH H) i
        simp only at hi
        rw [eH] at hi
        unfold alive mapH at hi
        split at hi
        · exact absurd rfl hi
        · exact fun hd => hi (mapO_dead.2 hd)
      · simp only
        rw [eH]
        have hik : i ≠ k := by rintro rfl; exact hn hkp
        unfold alive mapH
        rw [if_neg hik]
        exact fun hd => hi (mapO_dead.1 hd)
    unfold frzK at h
    split at h
    · exact frzK_out (s := ⟨env, H, F0, NF⟩) hn0 h hs
    · rename_i cs hcs
      split at h
      · rename_i hp
        obtain ⟨hk, h⟩ := h
        obtain ⟨h, hoff⟩ := offP_out h
        have h := mapOK_out (mapK_out h)
        obtain ⟨h1, h2⟩ := setHK_out h
        refine step _ _ (extA A (ρ k)) (hoff k (by simp)) (by simpa using h2) (by simp [mapR, mapA, mapC, isRef]) (fun S hS => ?_) (appK_out h1)
        have hs' := hs.famz (k := k) (by omega) hcs hp
        rw [hS, ← List.append_assoc]
        exact hs'
      · obtain ⟨hk, h⟩ := h
        obtain ⟨h, hoff⟩ := offP_out h
        have h := mapOK_out (mapK_out h)
        obtain ⟨h1, h2⟩ := setHK_out h
        refine step _ _ A (hoff k (by simp)) (by simpa using h2) (by simp [mapR, mapA, mapC, isRef]) (fun S hS => ?_) h1
        have hs' := hs.freeze (k := k) (by omega)
        have hcs : (LS.toF ⟨env, H, F0, NF⟩).H k = .cells cs := hcs
        rw [hcs] at hs'
        rw [hS]
        exact hs'
    · rename_i ob hne hne2
      obtain ⟨hk, h⟩ := h
      obtain ⟨h, hoff⟩ := offP_out h
      have h := mapOK_out (mapK_out h)
      obtain ⟨h1, h2⟩ := setHK_out h
      refine step _ _ A (hoff k (by simp)) (by simpa using h2) (by simp [mapR, mapA, mapC, isRef]) (fun S hS => ?_) h1
      rw [hS]
      exact hs.freeze (k := k) (by omega)
theorem upon_mono {next next' : Act → World → Prop} (h : ∀ a w, next a w → next' a w) {r : Result Next} (hr : o.upon P a next Q r) : o.upon P a next' Q r := by
  unfold Oper.upon at hr ⊢
  split at hr
  · exact h _ _ hr
  · exact h _ _ hr
  · exact h _ _ hr
  · refine Calls.mono hr fun e w' => ?_
    cases e with
    | returned v => exact h _ _
    | panicked ch => exact id
    | outgrown => exact id
  · exact Rows.mono hr fun v w' => h _ _
  · exact hr
  · exact hr.elim
theorem wp_mono_next {next next' : Act → World → Prop} (h : ∀ a w, next a w → next' a w) (hr : o.wp P a w next Q) : o.wp P a w next' Q := upon_mono h hr

theorem value_post {pk : List Nat} (hs : SatL E s a w ρ A) (hle : E.n0 ≤ s.H.length) {K : LS → Prop} {v : Value} {x : AV} (hrun : (execOp a.eval o).run P w = .ok (.value v) w) (hx : RepV (ctxOf E s.toF.H w ρ A) x v) (h : putK s o.dst x K) : o.wp P a w (Post E s ρ w pk K) Q := by
  unfold Oper.wp
  rw [hrun]
  obtain ⟨s', hK, h1, h2, h3⟩ := putK_out h
  refine ⟨s', hK, by rw [h3]; exact hle, ρ, A, ?_, by rw [h3]; exact .refl⟩
  unfold SatL
  rw [h1, h2]
  exact Sat.put hs o.dst hx

theorem tchE_mem {e : Eff} {k : Nat} (h : tchE e k) : k ∈ tchL e := by
  rcases h with ⟨ob, h⟩ | h
  · exact List.mem_append_left _ (List.mem_map.2 ⟨_, h, rfl⟩)
  · exact List.mem_append_right _ (by simp [h])
theorem mem_post {pk : List Nat} {K : LS → Prop} (hle : E.n0 ≤ s.H.length) (h : o.wp P a w (Fin E s.toF s.env.length s.H.length o.dst ρ w fun e => fixP C.fx n0 e.kill (offP pk (tchL e) (effK s o.dst e K))) Q) : o.wp P a w (Post E s ρ w pk K) Q := by
  refine wp_mono_next ?_ h
  rintro a' w' ⟨e, he, ρ', A', hs, hfr⟩
  obtain ⟨he, hoff⟩ := offP_out (fixP_out he).1
  obtain ⟨s', hK, h1, h2, h3⟩ := effK_out he
  have hH : listH s'.H = (applyF s.toF s.env.length s.H.length o.dst e).H := by rw [← h1]; rfl
  refine ⟨s', hK, Nat.le_trans hle h3, ρ', A', ?_, ?_⟩
  · unfold SatL
    rw [h1, h2]
    exact hs
  · rw [hH]
    exact hfr.mono fun k hk => hoff k (tchE_mem hk)

theorem memA_sound {S : FS} {tm n : Nat} {EV : Operand → AV} {K : Eff → Prop} (h : Sat E S tm a w ρ A) (hn0 : E.n0 ≤ n) (hn : S.H n = .dead) (hT : TOk P T) (hev : ∀ x, RepV (ctxOf E S.H w ρ A) (EV x) (a.eval x)) (hm : memA T S.H EV n o.op K) (hKf : ∀ e, K e → E.fx = true → ∀ k, e.kill = some k → E.n0 ≤ k) :
    o.wp P a w (Fin E S tm n o.dst ρ w K) Q := by
  unfold memA at hm
  split at hm
  case h_1 t hop => exact alloc_sound h hn0 hn hT hop hm
  case h_2 t x hop => exact box_sound h hn0 hn hev hop hm
  case h_3 t p x hop => exact store_sound h hT hev hop hm
  case h_4 t len parts hop => exact buildSlice_sound h hn0 hn hT hev hop hm
  case h_5 t l c hop => exact makeSlice_sound h hn0 hn hT hev hop hm
  case h_6 args argTypes hop =>
    split at hm
    case h_2 => exact hm.elim
    case h_1 s x t t2 h1 h2 =>
      have ha : args = #[s, x] := by apply Array.ext'; simpa using h1
      have ht : argTypes = #[t, t2] := by apply Array.ext'; simpa using h2
      subst ha ht
      split at hm
      · exact appendZ_sound h hT hev hop hm hKf
      · exact appendA_sound h hn0 hn hT hev hop hm hKf
  case h_7 args argTypes hop =>
    split at hm
    case h_2 => exact hm.elim
    case h_1 s x t t2 h1 h2 =>
      have ha : args = #[s, x] := by apply Array.ext'; simpa using h1
      have ht : argTypes = #[t, t2] := by apply Array.ext'; simpa using h2
      subst ha ht
      exact copyA_sound h hT hev hop hm
  case h_8 => exact hm.elim

theorem nodupB_out : ∀ {l : List Nat}, nodupB l = true → l.Nodup
  | [], _ => by simp
  | k :: r, h => by
    simp only [nodupB, Bool.and_eq_true, Bool.not_eq_true', List.contains_eq_mem, decide_eq_false_iff_not] at h
    exact List.nodup_cons.2 ⟨h.1, nodupB_out h.2⟩

theorem isAlive_out {o : AO} (h : isAlive o = true) : o ≠ .dead := by rintro rfl; simp [isAlive] at h

theorem retH_list {ρc frz : List Nat} {s : LS} {hs : List AO} (hal : ∀ k ∈ ρc, alive (listH s.H) k) :
    listH ((List.range (s.H.length + (hs.length - ρc.length))).map (retH ρc frz (listH s.H) s.H.length hs)) = retH ρc frz (listH s.H) s.H.length hs := by
  funext k
  by_cases hk : k < s.H.length + (hs.length - ρc.length)
  · simp [listH, List.getD, hk]
  · have e1 : listH ((List.range (s.H.length + (hs.length - ρc.length))).map (retH ρc frz (listH s.H) s.H.length hs)) k = .dead := listH_dead (by simp; omega)
    have hd : listH s.H k = .dead := listH_dead (by omega)
    have hq : ρc.idxOf? k = none := by
      rw [List.idxOf?_eq_none_iff]
      intro hm
      exact hal k hm hd
    rw [e1]
    unfold retH
    rw [hq]
    simp only
    rw [if_neg (by omega), hd]
    split <;> rfl

theorem oldRef_id {H : Nat → AO} {hs : List AO} (r : AV) : oldRef [] [] H hs r = r := by
  unfold oldRef
  split
  · rfl
  · simp

theorem mapO_id {f : AV → AV} (hf : ∀ r, f r = r) (o : AO) : mapO f o = o := by
  cases o with
  | cells cs =>
    have : mapC f = id := funext (mapC_id hf)
    simp [mapO, this]
  | _ => rfl

theorem retH_nil {H : List AO} {hs : List AO} : retH [] [] (listH H) H.length hs = listH (H ++ hs.map (mapO (backF [] H.length))) := by
  funext k
  unfold retH
  simp only [List.idxOf?_nil, List.length_nil, Nat.sub_zero, Nat.zero_add]
  by_cases hk : H.length ≤ k ∧ k < H.length + hs.length
  · rw [if_pos hk]
    simp only [listH, List.getD]
    rw [List.getElem?_append_right hk.1, List.getElem?_map]
    cases hs[k - H.length]? <;> rfl
  · rw [if_neg hk]
    simp only [List.contains_nil, Bool.false_eq_true, if_false]
    rw [mapO_id oldRef_id]
    simp only [listH, List.getD]
    by_cases hlt : k < H.length
    · rw [List.getElem?_append_left hlt]
    · rw [List.getElem?_append_right (by omega), List.getElem?_eq_none (l := H) (by omega), List.getElem?_eq_none (by simp; omega)]

theorem retK_out {ρc frz : List Nat} {d : Option Tmp} {r : AV} {hs : List AO} {nF : List Fam} {K : LS → Prop} (hal : ∀ k ∈ ρc, alive (listH s.H) k) (h : retK s d ρc frz r hs nF K) :
    ∃ s', K s' ∧ s'.toF = ⟨setE (fun t => mapR (oldRef ρc frz s.toF.H hs) (s.toF.env t)) s.env.length d (mapR (backF ρc s.H.length) r), retH ρc frz s.toF.H s.H.length hs, s.toF.F ++ nF⟩ ∧ s'.env.length = s.env.length ∧ s.H.length ≤ s'.H.length := by
  obtain ⟨env, H, F0, NF⟩ := s
  unfold retK at h
  split at h
  · rename_i heq
    cases heq
    obtain ⟨s', hK, h1, h2, h3⟩ := putK_out (appK_out (snocK_out h))
    refine ⟨s', hK, ?_, h2, by rw [h3]; simp⟩
    rw [h1]
    simp only [LS.toF, FS.mk.injEq, List.append_assoc, and_true]
    refine ⟨?_, retH_nil.symm⟩
    have : (fun t => mapR (oldRef [] [] (listH H) hs) (env.getD t .any)) = fun t => env.getD t .any := by
      funext t; exact mapR_id oldRef_id _
    rw [this]
  · rename_i heq _
    cases heq
    obtain ⟨s', hK, h1, h2, h3⟩ := putK_out (appK_out (mapOK_out (mapK_out h)))
    refine ⟨s', hK, ?_, by simpa using h2, by rw [h3]; simp⟩
    rw [h1]
    simp only [LS.toF, FS.mk.injEq, List.append_assoc, and_true, List.map_id]
    refine ⟨?_, retH_list hal⟩
    rw [env_map (by rfl)]
    simp

theorem roFreeX_out {vs : List Nat} {o : AO} (h : roFreeX vs o) : vs = [] ∨ roFreeO o := by
  cases vs with
  | nil => exact .inl rfl
  | cons _ _ => exact .inr h

theorem sameK_out {vs : List Nat} : ∀ {os hs : List AO} {X : Prop}, sameK vs os hs X → X ∧ hs.length = os.length ∧ ∀ (i : Nat), i < os.length → (listH hs i).info = (listH os i).info ∧ (∃ n, (listH hs i).info = some n) ∧ (vs = [] ∨ roFreeO (listH hs i))
  | [], [], _, h => ⟨h, rfl, by simp⟩
  | .iarr l :: r, .iarr l' :: t, X, h => by
    obtain ⟨h1, h2⟩ := h
    obtain ⟨h3, h4, h5⟩ := sameK_out (os := r) (hs := t) h2
    refine ⟨h3, by simp [h4], fun i hi => ?_⟩
    cases i with
    | zero => exact ⟨by simp [listH, AO.info, h1], ⟨_, rfl⟩, .inr trivial⟩
    | succ i => exact h5 i (by simpa using hi)
  | .arr z l :: r, .arr z' l' :: t, X, h => by
    obtain ⟨h0, h1, h6, h2⟩ := h
    subst h0
    obtain ⟨h3, h4, h5⟩ := sameK_out (os := r) (hs := t) h2
    refine ⟨h3, by simp [h4], fun i hi => ?_⟩
    cases i with
    | zero => exact ⟨by simp [listH, AO.info, h1], ⟨_, rfl⟩, roFreeX_out h6⟩
    | succ i => exact h5 i (by simpa using hi)
  | [], _ :: _, _, h => h.elim
  | .dead :: _, _, _, h => by unfold sameK at h; exact h.elim
  | .cells _ :: _, _, _, h => by unfold sameK at h; exact h.elim
  | .iarr _ :: _, [], _, h => by unfold sameK at h; exact h.elim
  | .iarr _ :: _, .dead :: _, _, h => by unfold sameK at h; exact h.elim
  | .iarr _ :: _, .cells _ :: _, _, h => by unfold sameK at h; exact h.elim
  | .iarr _ :: _, .arr _ _ :: _, _, h => by unfold sameK at h; exact h.elim
  | .arr _ _ :: _, [], _, h => by unfold sameK at h; exact h.elim
  | .arr _ _ :: _, .dead :: _, _, h => by unfold sameK at h; exact h.elim
  | .arr _ _ :: _, .cells _ :: _, _, h => by unfold sameK at h; exact h.elim
  | .arr _ _ :: _, .iarr _ :: _, _, h => by unfold sameK at h; exact h.elim

theorem updH_zip : ∀ {ρc : List Nat} {hs : List AO} {H : Nat → AO}, hs.length = ρc.length → ρc.Nodup → updH H (ρc.zip hs) = inH ρc H hs
  | [], [], H, _, _ => by funext k; simp [updH, inH]
  | k :: r, o :: t, H, hl, hnd => by
    have hnd' := List.nodup_cons.1 hnd
    rw [List.zip_cons_cons, updH, updH_zip (by simpa using hl) hnd'.2]
    funext j
    unfold inH
    rw [List.idxOf?_cons]
    by_cases e : k = j
    · subst e
      have hq : r.idxOf? k = none := List.idxOf?_eq_none_iff.2 hnd'.1
      simp [hq, setH, listH]
    · have e' : ¬ j = k := fun h => e h.symm
      simp only [beq_iff_eq, e, if_false]
      cases hq : r.idxOf? j with
      | none => simp [setH, e']
      | some i => simp [listH]
  | [], _ :: _, _, h, _ => by simp at h
  | _ :: _, [], _, h, _ => by simp at h

theorem retInK_out {ρc vs : List Nat} {d : Option Tmp} {r : AV} {hs : List AO} {nF : List Fam} {K : LS → Prop} (hnd : ρc.Nodup) (h : retInK s d ρc vs r hs nF K) :
    nF = [] ∧ ∃ v, (r = .val v ∨ (r = .tup [] ∧ v = .tuple #[])) ∧ (∀ i, i < ρc.length → (listH hs i).info = (listH s.H (ρc.getD i 0)).info ∧ (∃ n, (listH hs i).info = some n) ∧ (vs = [] ∨ roFreeO (listH hs i))) ∧
    ∃ s', K s' ∧ s'.toF = ⟨setE s.toF.env s.env.length d (.val v), inH ρc s.toF.H hs, s.toF.F⟩ ∧ s'.env.length = s.env.length ∧ s.H.length ≤ s'.H.length := by
  obtain ⟨env, H, F0, NF⟩ := s
  unfold retInK at h
  have key : ∀ v, sameK vs (ρc.map (listH H)) hs (updK H (ρc.zip hs) fun H => putK ⟨env, H, F0, NF⟩ d (.val v) K) → (∀ i, i < ρc.length → (listH hs i).info = (listH H (ρc.getD i 0)).info ∧ (∃ n, (listH hs i).info = some n) ∧ (vs = [] ∨ roFreeO (listH hs i))) ∧
      ∃ s', K s' ∧ s'.toF = ⟨setE (LS.toF ⟨env, H, F0, NF⟩).env env.length d (.val v), inH ρc (LS.toF ⟨env, H, F0, NF⟩).H hs, (LS.toF ⟨env, H, F0, NF⟩).F⟩ ∧ s'.env.length = env.length ∧ H.length ≤ s'.H.length := by
    intro v h
    obtain ⟨h1, h2, h3⟩ := sameK_out h
    obtain ⟨H', h4, h5, h6⟩ := updK_out h1
    obtain ⟨s', hK, h7, h8, h9⟩ := putK_out h4
    refine ⟨fun i hi => ?_, s', hK, ?_, h8, by rw [h9]; simp [h6]⟩
    · have := h3 i (by simpa using hi)
      have e : listH (ρc.map (listH H)) i = listH H (ρc.getD i 0) := by simp [listH, List.getD, hi]
      rw [e] at this
      exact this
    · rw [h7]
      simp only [LS.toF, FS.mk.injEq, and_true, true_and]
      rw [h5, updH_zip (by simpa using h2) hnd]
  split at h
  case h_3 => exact h.elim
  case h_1 heq =>
    cases heq
    exact ⟨rfl, _, .inl rfl, key _ h⟩
  case h_2 heq =>
    cases heq
    exact ⟨rfl, _, .inr ⟨rfl, rfl⟩, key _ h⟩

theorem callV_sound {pk : List Nat} (hs : SatL E s a w ρ A) (hC : COk P C) (hn0 : E.At n0 C) (hle : E.n0 ≤ s.H.length) {f : FuncId} {avs : List AV} {vals : List Value} (hlen : vals.length = avs.length)
    (hev : ∀ (i : Nat) x v, avs[i]? = some x → vals[i]? = some v → RepV (ctxOf E s.toF.H w ρ A) x v) (hex : (execOp a.eval o).run P w = (callFunc f vals.toArray).run P w) {K : LS → Prop}
    (h : callK C n0 pk s o.dst f avs K) : o.wp P a w (Post E s ρ w pk K) Q := by
  unfold callK at h
  split at h
  case h_1 => exact h.elim
  case h_2 nnew mode alias C0 hcon =>
    obtain ⟨hkeep, fn, hfn, hname, hbody⟩ := hC.1 f ⟨nnew, mode, alias, C0⟩ hcon
    generalize hce : (⟨nnew, mode, alias, C0⟩ : Con) = con at hkeep hcon
    have e1 : nnew = con.nnew := by rw [← hce]
    have e2 : mode = con.mode := by rw [← hce]
    have e3 : alias = con.alias := by rw [← hce]
    have e4 : C0 = con.C := by rw [← hce]
    rw [e2, e3, e4] at h
    have h := natK_out (natX_out (mapK_out h))
    rw [List.map_id'] at h
    generalize hρc : passOf con.mode (listH s.H) avs = ρc at h
    generalize hvs : (dedup (avs.flatMap refsA)).filter (fun k => !ρc.contains k) = vs at h
    obtain ⟨hnd, hal, h⟩ := h
    have hnd := nodupB_out hnd
    have hal : ∀ k ∈ ρc, alive (listH s.H) k := fun k hk => isAlive_out (List.all_eq_true.1 hal k hk)
    have hdis : ∀ k ∈ vs, k ∉ ρc := by
      intro k hk
      rw [← hvs] at hk
      have := (List.mem_filter.1 hk).2
      simpa using this
    have hrun : (execOp a.eval o).run P w = .ok (.enter f vals.toArray) w := by
      have hnm : ¬ (fn.name == "runtime.NumGoroutine") = true := by rw [hname]; simp
      have hbd : ¬ fn.body.isNone = true := by rw [hbody]; simp
      rw [hex]
      simp only [Sem.run_bind, Result.andThen_ok, callFunc, run_program, hfn]
      rw [if_neg hnm, if_neg hbd]
      simp
    have hget : ∀ {i}, i < ρc.length → ρc.getD i 0 ∈ ρc := by
      intro i hi
      have : ρc.getD i 0 = ρc[i] := by simp [List.getD, hi]
      rw [this]; exact List.getElem_mem hi
    have hreps : ∀ (fx : Bool) (i : Nat) x v, (avs.map (mapR (argView ρc vs (listH s.H))))[i]? = some x → vals[i]? = some v →
        RepV (ctxOf (calleeE E s.toF w ρ A ρc vs fx) (listH (calleeH ρc vs (listH s.H))) w (fun i => ρ (ρc.getD i 0)) A) x v := by
      intro fx i x v hx hv
      rw [List.getElem?_map] at hx
      obtain ⟨x0, hx0, rfl⟩ := Option.map_eq_some_iff.1 hx
      exact (hev i x0 v hx0 hv).move (callee_keeps (ρc := ρc) (vs := vs)) (argView ρc vs s.toF.H) (fun r v hr hv => callee_ref hs.toSatW hr hv)
    split at h
    · -- in place
      rename_i hm3
      obtain ⟨hcall, hoff⟩ := offP_out h
      have hsat := callee_sat (vs := vs) (fx := true) hs.toSatW hnd hal hdis
      have hc := hkeep (calleeE E s.toF w ρ A ρc vs true) vals _ _ _ _ hcall (by simpa using hlen) (by simp [calleeE, calleeH]) hsat (hreps true) (fun _ => hm3)
      unfold Oper.wp
      rw [hrun]
      refine Calls.mono hc ?_
      rintro e w' ⟨v, r, hs', nF, ρ', A', rfl, hK, hsw, hr, hl1, hl2, hro⟩
      obtain ⟨rfl, v0, hr0, hi, s', hK', h1, h2, h3⟩ := retInK_out hnd hK
      rw [List.append_nil] at hsw
      have hsat' := Sat.inplace hs hal hsw hi
      have hv : v = v0 := by
        rcases hr0 with rfl | ⟨rfl, rfl⟩
        · cases hr; rfl
        · cases hr with
          | tup _ vs hl _ _ =>
            have : vs = [] := List.eq_nil_of_length_eq_zero hl
            subst this
            rfl
      subst hv
      have hall : ∀ k, alive (inH ρc (listH s.H) hs') k ↔ alive (listH s.H) k := by
        intro k
        unfold alive inH
        cases hq : ρc.idxOf? k with
        | none => rfl
        | some i =>
          have hg := idxOf_some hq
          obtain ⟨_, ⟨n, h4⟩, _⟩ := hi i (List.getElem?_eq_some_iff.1 hg).1
          exact ⟨fun _ => hal k (List.mem_of_getElem? hg), fun _ e => by have e : listH hs' i = .dead := e; rw [e] at h4; cases h4⟩
      refine ⟨s', hK', Nat.le_trans hle h3, ρ, A', ?_, ?_⟩
      · unfold SatL
        rw [h1, h2]
        exact hsat'.put o.dst (.val _)
      · have hH : listH s'.H = inH ρc (listH s.H) hs' := congrArg FS.H h1
        rw [hH]
        refine ⟨hsw.size, fun b hb hn => ?_, fun k hk => .inl ⟨(hall k).1 hk, rfl⟩, fun k hk hn => ⟨(hall k).2 hk, rfl⟩⟩
        refine hsw.frame b hb fun i hi => ?_
        have hi : i < ρc.length := hi
        exact (hn _ (hal _ (hget hi)) (hoff _ (hget hi))).symm
    obtain ⟨h, hfxl⟩ := fixL_out h
    obtain ⟨hfn', hcall⟩ := aliK_out h
    obtain ⟨hcall, hoff⟩ := offP_out hcall
    have hsat := callee_sat (vs := vs) (fx := con.mode == 3) hs.toSatW hnd hal hdis
    have hc := hkeep (calleeE E s.toF w ρ A ρc vs (con.mode == 3)) vals _ _ _ _ hcall (by simpa using hlen) (by simp [calleeE, calleeH]) hsat (hreps _) (fun e => by simpa [calleeE] using e)
    unfold Oper.wp
    rw [hrun]
    refine Calls.mono hc ?_
    rintro e w' ⟨v, r, hs', nF, ρ', A', rfl, hK, hsw, hr, hl1, hl2, hro⟩
    have hl1 : ρc.length ≤ hs'.length := hl1
    have hl2 : hs'.length ≤ ρc.length + con.nnew := hl2
    obtain ⟨hsat', hrep⟩ := Sat.ret (n := s.H.length) (cnt := con.nnew) (al := con.alias) (frz := if con.alias then vs else []) hs hnd hal hdis hsw hl1 hle hl2 (fun k hk _ => listH_dead hk) rfl
      (fun ha k hk => by
        have := List.all_eq_true.1 (hfn' ha) k hk
        have h0 := hn0.1
        simp at this; omega) hro (fun e => .inr fun k hk => by have := hfxl (hn0.2 e) k hk; have h0 := hn0.1; omega) hr
    obtain ⟨s', hK', h1, h2, h3⟩ := retK_out hal hK
    refine ⟨s', hK', Nat.le_trans hle h3, retρ ρc ρ s.H.length hs' ρ', A', ?_, ?_⟩
    · unfold SatL
      rw [h1, h2]
      exact hsat'.put o.dst hrep
    · have hH : listH s'.H = retH ρc (if con.alias = true then vs else []) (listH s.H) s.H.length hs' := by
        exact congrArg FS.H h1
      rw [hH]
      refine ⟨hsw.size, fun b hb hn => ?_, fun k hk => ?_, fun k hk hn => ?_⟩
      · refine hsw.frame b hb fun i hi => ?_
        have hi : i < ρc.length := hi
        exact (hn _ (hal _ (hget hi)) (hoff _ (List.mem_append_left _ (hget hi)))).symm
      · rcases ret_src (S := s.toF) (ρ := ρ) (ρ' := ρ') hk with ⟨i, hi, e1, e2, e3, _⟩ | ⟨hi, _, _, e1, _⟩
        · rw [e1]
          rcases (hsw.place i hi).2 with h4 | ⟨h4, h5⟩
          · exact .inr h4
          · have h4 : i < ρc.length := h4
            have h5 : ρ' i = ρ (ρc.getD i 0) := h5
            rw [e3 h4] at h5
            refine .inl ⟨?_, h5⟩
            have := hal _ (hget h4)
            rw [e3 h4] at this
            exact this
        · exact .inl ⟨hi, e1⟩
      · have hkp : k ∈ pk := Classical.byContradiction hn
        have hk1 : k ∉ ρc := fun h => hoff k (List.mem_append_left _ h) hkp
        have hk2 : k ∉ (if con.alias = true then vs else []) := fun h => hoff k (List.mem_append_right _ h) hkp
        have hq : ρc.idxOf? k = none := List.idxOf?_eq_none_iff.2 hk1
        have hlt : k < s.H.length := by
          rcases Nat.lt_or_ge k s.H.length with h4 | h4
          · exact h4
          · exact absurd (listH_dead h4) hk
        have hnn : ¬ (s.H.length ≤ k ∧ k < s.H.length + (hs'.length - ρc.length)) := by omega
        have hfc : ¬ ((if con.alias = true then vs else []).contains k = true) := by simpa using hk2
        refine ⟨?_, ?_⟩
        · unfold alive retH
          rw [hq]
          simp only
          rw [if_neg hnn, if_neg hfc]
          exact fun hd => hk (mapO_dead.1 hd)
        · unfold retρ
          rw [hq]
          simp only
          rw [if_neg hnn]
theorem ev_reps (hs : SatL E s a w ρ A) (args : List Operand) : ∀ (i : Nat) x v, (args.map s.ev)[i]? = some x → (args.map a.eval)[i]? = some v → RepV (ctxOf E s.toF.H w ρ A) x v := by
  intro i x v hx hv
  rw [List.getElem?_map] at hx hv
  obtain ⟨y, hy, rfl⟩ := Option.map_eq_some_iff.1 hx
  rw [hy] at hv
  simp at hv
  subst hv
  exact ev_rep hs y
theorem callK_sound {pk : List Nat} (hs : SatL E s a w ρ A) (hC : COk P C) (hn0 : E.At n0 C) (hle : E.n0 ≤ s.H.length) {f : FuncId} {args : Array Operand} {ats : Array TypeId} {cl : Operand} (hop : o.op = .call { callee := .value cl, args := args, argTypes := ats }) (hcl : a.eval cl = .func (.func f) #[] #[]) {K : LS → Prop}
    (h : callK C n0 pk s o.dst f (args.toList.map s.ev) K) : o.wp P a w (Post E s ρ w pk K) Q := by
  have ea : (args.toList.map a.eval).toArray = args.map a.eval := by apply Array.ext'; simp
  refine callV_sound hs hC hn0 hle (vals := args.toList.map a.eval) (by simp) (ev_reps hs _) ?_ h
  rw [ea]
  simp only [execOp, hop, resolve, hcl, Deferred.ofValue, Sem.run_bind, Sem.run_pure, Result.andThen_ok, invoke]
  simp
/-- A method called behind an interface. -/
theorem invoke_sound {pk : List Nat} (hT : TOk P T) (hs : SatL E s a w ρ A) (hC : COk P C) (hn0 : E.At n0 C) (hle : E.n0 ≤ s.H.length) {args : Array Operand} {ats : Array TypeId} {rc : Operand} {nm : String} (hop : o.op = .call { callee := .invoke rc nm, args := args, argTypes := ats }) {t k off : Nat} (hr : s.ev rc = .ifp t k off) {f : FuncId} {p : Bool} {e : TypeId} (hm : C.me t nm = some (f, p, e)) {K : LS → Prop}
    (h : brK p (callK C n0 pk s o.dst f (.ptr k off :: args.toList.map s.ev) K) (loadA T (listH s.H) (s.F0 ++ s.NF) e (.ptr k off) fun x => callK C n0 pk s o.dst f (x :: args.toList.map s.ev) K)) : o.wp P a w (Post E s ρ w pk K) Q := by
  have hmo := hC.2.2 t nm _ hm
  have hrep := ev_rep hs rc
  rw [hr] at hrep
  have ea : ∀ x : Value, (x :: args.toList.map a.eval).toArray = #[x] ++ args.map a.eval := by intro x; apply Array.ext'; simp
  have hcons : ∀ (y : AV) (u : Value), RepV (ctxOf E s.toF.H w ρ A) y u → ∀ (i : Nat) x v, (y :: args.toList.map s.ev)[i]? = some x → (u :: args.toList.map a.eval)[i]? = some v → RepV (ctxOf E s.toF.H w ρ A) x v := by
    intro y u hy i x v hx hv
    cases i with
    | zero => simp at hx hv; subst hx hv; exact hy
    | succ i => exact ev_reps hs args.toList i x v (by simpa using hx) (by simpa using hv)
  generalize hv : a.eval rc = v at hrep
  cases hrep with
  | ifp _ _ _ cs hcs =>
    have hex : (execOp a.eval o).run P w = (callMethod (.iface t (.pointer (some ⟨ρ k, off, none⟩))) nm (args.map a.eval)).run P w := by
      simp only [execOp, hop, resolve, hv, Sem.run_bind, Sem.run_pure, Result.andThen_ok, invoke]
      have e1 : (#[Value.iface t (.pointer (some ⟨ρ k, off, none⟩))] ++ args.map a.eval)[0]? = some (.iface t (.pointer (some ⟨ρ k, off, none⟩))) := by
        rw [Array.getElem?_append_left (by simp)]
        rfl
      have e2 : (#[Value.iface t (.pointer (some ⟨ρ k, off, none⟩))] ++ args.map a.eval).extract 1 = args.map a.eval := by
        apply Array.ext'
        simp [List.take_of_length_le]
      rw [e1]
      simp only
      rw [e2]
    cases p with
    | true =>
      have h := (brK_out h).1 rfl
      refine callV_sound hs hC hn0 hle (vals := .pointer (some ⟨ρ k, off, none⟩) :: args.toList.map a.eval) (by simp) (hcons _ _ (.ptr k off cs hcs)) ?_ h
      rw [hex, hmo, ea]
    | false =>
      have h := (brK_out h).2 rfl
      obtain ⟨v, x, h1, h2, h3⟩ := loadA_sound (D := (· = w)) hs.toSatW hT h (.ptr k off cs hcs) (by rintro w' rfl; exact ⟨fun _ _ => rfl, fun _ _ => rfl⟩)
      refine callV_sound hs hC hn0 hle (vals := v :: args.toList.map a.eval) (by simp) (hcons _ _ h2) ?_ h1
      have h3 : (loadVar e ⟨ρ k, off, none⟩).run P w = .ok v w := h3 w rfl
      rw [hex, hmo, h3, ea]
      rfl
end Go.Vc
namespace Go.Vc
variable {P : Program} {E : Entry} {w : World} {ρ : Nat → Nat} {A : FA} {S : FS} {a : Act} {tm n0 : Nat} {σ : List Nat}

def relρ (σ : List Nat) (ρ : Nat → Nat) : Nat → Nat := fun i => ρ (σ.getD i 0)

theorem listH_rel {H : Nat → AO} {i k : Nat} (h : σ[i]? = some k) : listH (relH n0 σ H) i = mapO (lref n0 σ H) (H k) := by
  simp [listH, relH, List.getD, h]
theorem rel_alive {H : Nat → AO} {i : Nat} (h : alive (listH (relH n0 σ H)) i) : ∃ k, σ[i]? = some k ∧ relρ σ ρ i = ρ k ∧ alive H k ∧ listH (relH n0 σ H) i = mapO (lref n0 σ H) (H k) := by
  cases hq : σ[i]? with
  | none => exact absurd (by simp [listH, relH, List.getD, hq]) h
  | some k =>
    have e := listH_rel (n0 := n0) (H := H) hq
    refine ⟨k, rfl, by simp [relρ, List.getD, hq], fun hd => h ?_, e⟩
    rw [e, hd]; rfl

theorem startsB_out (h : startsB σ n0 = true) {i : Nat} (hi : i < n0) : σ[i]? = some i := by
  have := List.all_eq_true.1 h i (by simpa using hi)
  simpa using this

theorem rel_keeps (_h : SatW E S.H S.F w ρ A) : Keeps (ctxOf E S.H w ρ A) (ctxOf E (listH (relH n0 σ S.H)) w (relρ σ ρ) A) := by
  refine ⟨fun b hb => ?_, fun _ _ => rfl, fun _ hb => hb, fun _ _ => rfl, Nat.le_refl _, fun _ _ => rfl⟩
  rcases hb with hb | ⟨h1, h2, h3, h4⟩
  · exact .inl hb
  · refine .inr ⟨h1, h2, fun i hi => ?_, h4⟩
    obtain ⟨k, _, e, ha, _⟩ := rel_alive (ρ := ρ) hi
    rw [e]; exact h3 k ha

theorem rel_ref (h : SatW E S.H S.F w ρ A) (_hnd : σ.Nodup) (_hst : startsB σ n0 = true) (hn : E.n0 = n0) {r : AV} {v : Value} (hr : isRef r = true) (hv : RepV (ctxOf E S.H w ρ A) r v) :
    RepV (ctxOf E (listH (relH n0 σ S.H)) w (relρ σ ρ) A) (lref n0 σ S.H r) v := by
  obtain ⟨k, hk, ha⟩ := RepO.alive_of hr hv
  unfold lref
  rw [hk]
  simp only
  split
  · rename_i j hj
    have hg := idxOf_some hj
    have e := listH_rel (n0 := n0) (H := S.H) hg
    refine hv.reIdx hk (by simp [relρ, List.getD, hg]) (by show (listH (relH n0 σ S.H) j).info = (S.H k).info; rw [e, mapO_info]) (fun cs hcs => ⟨cs.map (mapC (lref n0 σ S.H)), ?_⟩) rfl
    have hcs : S.H k = .cells cs := hcs
    show listH (relH n0 σ S.H) j = _
    rw [e, hcs]; rfl
  · rename_i hq
    split
    · rename_i hkn
      refine roView_rep hk hv (h.obj k) (rel_keeps h) (.inr ⟨?_, (h.place k ha).1, fun i hi => ?_, h.alive_unfr ha⟩) rfl
      · rcases (h.place k ha).2 with h1 | h1
        · exact h1
        · omega
      · obtain ⟨k', hg, e, ha', _⟩ := rel_alive (ρ := ρ) hi
        rw [e]
        intro he
        have := h.inj k' k ha' ha he
        subst this
        exact List.idxOf?_eq_none_iff.1 hq (List.mem_of_getElem? hg)
    · exact .any v

theorem SatW.relabel (h : SatW E S.H S.F w ρ A) (hnd : σ.Nodup) (hst : startsB σ n0 = true) (hn : E.n0 = n0) : SatW E (listH (relH n0 σ S.H)) S.F w (relρ σ ρ) A := by
  have hsm : ∀ {i k : Nat}, σ[i]? = some k → (i < E.n0 ∨ k < E.n0) → i = k := by
    intro i k hg hor
    rcases hor with h1 | h1
    · rw [startsB_out hst (by omega)] at hg; exact Option.some.inj hg
    · have := startsB_out hst (i := k) (by omega)
      have e1 := idxOf_get hnd hg
      rw [idxOf_get hnd this] at e1
      exact (Option.some.inj e1).symm
  refine { os := h.os, tape := h.tape, output := h.output, size := h.size, frame := h.frame, okB := h.okB, zB := h.zB, place := ?_, inj := ?_, stay := ?_, fix := ?_, grow := h.grow, pins := h.pins, obj := ?_, fl := h.fl, nf := h.nf, A0 := h.A0,
           fam := fun f fam hf => (h.fam f fam hf).move (rel_keeps h) (h.fam_lt hf) }
  · intro i hi
    obtain ⟨k, hg, e, ha, _⟩ := rel_alive (ρ := ρ) hi
    rw [e]
    refine ⟨(h.place k ha).1, (h.place k ha).2.imp id fun h1 => ?_⟩
    have := hsm hg (.inr h1.1)
    subst this
    exact h1
  · intro i j hi hj hij
    obtain ⟨k, hg, e, ha, _⟩ := rel_alive (ρ := ρ) hi
    obtain ⟨k', hg', e', ha', _⟩ := rel_alive (ρ := ρ) hj
    rw [e, e'] at hij
    have := h.inj k k' ha ha' hij
    subst this
    have e1 := idxOf_get hnd hg
    rw [idxOf_get hnd hg'] at e1
    exact (Option.some.inj e1).symm
  · intro i cs hi hcs
    have hal : alive (listH (relH n0 σ S.H)) i := by rw [alive, hcs]; simp
    obtain ⟨k, hg, e, ha, e2⟩ := rel_alive (ρ := ρ) hal
    have := hsm hg (.inl hi)
    subst this
    rw [e]
    rw [e2] at hcs
    cases hH : S.H i with
    | cells cs' => exact h.stay i cs' hi hH
    | dead => rw [hH] at hcs; simp [mapO] at hcs
    | iarr l => rw [hH] at hcs; simp [mapO] at hcs
    | arr sz l => rw [hH] at hcs; simp [mapO] at hcs
  · intro hfx i hi hal
    obtain ⟨k, hg, e, ha, e2⟩ := rel_alive (ρ := ρ) hal
    have := hsm hg (.inl hi)
    subst this
    rw [e]
    exact h.fix hfx i hi ha
  · intro i
    by_cases hal : alive (listH (relH n0 σ S.H)) i
    · obtain ⟨k, hg, e, ha, e2⟩ := rel_alive (ρ := ρ) hal
      rw [e2]
      exact (h.obj k).move (rel_keeps h) _ (fun r v hr hv => rel_ref h hnd hst hn hr hv) (by show w.heap[relρ σ ρ i]? = w.heap[ρ k]?; rw [e])
    · have hd : listH (relH n0 σ S.H) i = .dead := Classical.byContradiction hal
      rw [hd]; trivial

theorem rel_val (h : SatW E S.H S.F w ρ A) (hnd : σ.Nodup) (hst : startsB σ n0 = true) (hn : E.n0 = n0) {x : AV} {v : Value} (hv : RepV (ctxOf E S.H w ρ A) x v) :
    RepV (ctxOf E (listH (relH n0 σ S.H)) w (relρ σ ρ) A) (mapR (lref n0 σ S.H) x) v :=
  hv.move (rel_keeps h) _ fun _ _ hr hv => rel_ref h hnd hst hn hr hv

theorem Sat.relabel (h : Sat E S tm a w ρ A) (hnd : σ.Nodup) (hst : startsB σ n0 = true) (hn : E.n0 = n0) :
    Sat E ⟨fun t => mapR (lref n0 σ S.H) (S.env t), listH (relH n0 σ S.H), S.F⟩ tm a w (relρ σ ρ) A :=
  { h.toSatW.relabel hnd hst hn with env := fun t => rel_val h.toSatW hnd hst hn (h.env t), tsize := h.tsize, defers := h.defers.move (rel_keeps h.toSatW) }

/- A state that says less. -/
theorem leE_cons {x y : AV} {r t : List AV} (h : leE (x :: r) (y :: t)) : leV x y ∧ leE r t := by
  cases x <;> first | exact h | exact ⟨trivial, h⟩
theorem leE_get : ∀ {xs ys : List AV}, leE xs ys → xs.length = ys.length ∧ ∀ (i : Nat) x, xs[i]? = some x → ∃ y, ys[i]? = some y ∧ leV x y
  | [], [], _ => ⟨rfl, fun i x h => by simp at h⟩
  | x :: r, y :: t, h => by
    obtain ⟨h1, h2⟩ := leE_cons h
    obtain ⟨h3, h4⟩ := leE_get h2
    refine ⟨by simp [h3], fun i z hz => ?_⟩
    cases i with
    | zero => simp at hz; subst hz; exact ⟨y, rfl, h1⟩
    | succ i => simpa using h4 i z (by simpa using hz)
  | [], _ :: _, h => h.elim
  | x :: _, [], h => by cases x <;> exact h.elim
theorem leH_get : ∀ {xs ys : List AO}, leH xs ys → xs.length = ys.length ∧ ∀ i, leO (listH xs i) (listH ys i)
  | [], [], _ => ⟨rfl, fun i => by simp [listH, leO]⟩
  | x :: r, y :: t, h => by
    obtain ⟨h1, h2⟩ := h
    obtain ⟨h3, h4⟩ := leH_get h2
    refine ⟨by simp [h3], fun i => ?_⟩
    cases i with
    | zero => exact h1
    | succ i => exact h4 i
  | [], _ :: _, h => h.elim
  | _ :: _, [], h => h.elim

theorem leO_cases {x y : AO} (h : leO x y) : (∃ cs ds, x = .cells cs ∧ y = .cells ds ∧ leE cs ds) ∨ (x = y ∧ ∀ cs, x ≠ .cells cs) := by
  cases x <;> cases y <;> simp only [leO, reduceCtorEq] at h
  case dead.dead => exact .inr ⟨rfl, by simp⟩
  case cells.cells cs ds => exact .inl ⟨_, _, rfl, rfl, h⟩
  case iarr.iarr l l' => subst h; exact .inr ⟨rfl, by simp⟩
  case arr.arr z l z' l' => obtain ⟨rfl, rfl⟩ := h; exact .inr ⟨rfl, by simp⟩

theorem leV_rep {c : Ctx} {x y : AV} {v : Value} (h : leV x y) (hv : RepV c y v) : RepV c x v := by
  unfold leV at h
  split at h
  · exact .any v
  · subst h; cases hv; exact .ints [] _ (.sl0 _ _ _)
  · subst h; cases hv; exact .sl0 _ _ _
  · subst h; exact hv
  · subst h; exact hv
  · obtain ⟨rfl, rfl⟩ := h; exact hv
  · obtain ⟨rfl, rfl⟩ := h; exact hv
  · obtain ⟨rfl, rfl⟩ := h; exact hv
  · subst h; exact hv
  · subst h; exact hv

theorem Sat.weaken {S1 : FS} (h : Sat E S tm a w ρ A) (hF : S1.F = S.F) (hE : ∀ t, leV (S1.env t) (S.env t)) (hH : ∀ k, leO (S1.H k) (S.H k)) : Sat E S1 tm a w ρ A := by
  have hal : ∀ k, alive S1.H k ↔ alive S.H k := by
    intro k
    rcases leO_cases (hH k) with ⟨cs, ds, e1, e2, _⟩ | ⟨e, _⟩
    · simp [alive, e1, e2]
    · simp [alive, e]
  have hinfo : ∀ k, (S1.H k).info = (S.H k).info := by
    intro k
    rcases leO_cases (hH k) with ⟨cs, ds, e1, e2, _⟩ | ⟨e, _⟩
    · simp [e1, e2, AO.info]
    · rw [e]
  have kp : Keeps (ctxOf E S.H w ρ A) (ctxOf E S1.H w ρ A) :=
    ⟨fun b hb => hb.imp id fun ⟨h1, h2, h3, h4⟩ => ⟨h1, h2, fun k hk => h3 k ((hal k).1 hk), h4⟩, fun _ _ => rfl, fun _ h => h, fun _ _ => rfl, Nat.le_refl _, fun _ _ => rfl⟩
  have href : ∀ r v, isRef r = true → RepV (ctxOf E S.H w ρ A) r v → RepV (ctxOf E S1.H w ρ A) r v := by
    intro r v hr hv
    obtain ⟨k, hk, _⟩ := RepO.alive_of hr hv
    refine hv.ref_other hk rfl (hinfo k) (fun cs hcs => ?_) fun vs T fr h => ⟨vs, T, fr, h, Nat.le_refl _⟩
    have hcs : S.H k = .cells cs := hcs
    rcases leO_cases (hH k) with ⟨cs1, ds, e1, e2, _⟩ | ⟨e, hne⟩
    · exact ⟨cs1, e1⟩
    · exact absurd (e.trans hcs) (hne cs)
  refine { os := h.os, tape := h.tape, output := h.output, size := h.size, frame := h.frame, okB := h.okB, zB := h.zB, place := fun k hk => h.place k ((hal k).1 hk), inj := fun k j hk hj => h.inj k j ((hal k).1 hk) ((hal j).1 hj), stay := ?_, fix := fun hfx k hk ha => h.fix hfx k hk ((hal k).1 ha), grow := h.grow, pins := h.pins,
           obj := ?_, fl := hF ▸ h.fl, nf := h.nf, A0 := h.A0, fam := fun f fam hf => (h.fam f fam (hF ▸ hf)).move kp (h.fam_lt (hF ▸ hf)), env := fun t => leV_rep (hE t) ((h.env t).stay kp href), tsize := h.tsize, defers := h.defers.move kp }
  · intro k cs hk hcs
    rcases leO_cases (hH k) with ⟨cs1, ds, e1, e2, _⟩ | ⟨e, hne⟩
    · exact h.stay k ds hk e2
    · exact absurd hcs (hne cs)
  · intro k
    rcases leO_cases (hH k) with ⟨cs1, ds, e1, e2, he⟩ | ⟨e, hne⟩
    · have ho := h.obj k
      rw [e2] at ho
      rw [e1]
      obtain ⟨hl, hg⟩ := leE_get he
      obtain ⟨vs, T, h1, h2, h3, h4⟩ := (ho.stay (c' := ctxOf E S1.H w ρ A) kp href rfl : RepO (ctxOf E S1.H w ρ A) k (.cells ds))
      refine ⟨vs, T, h1, by omega, h3, fun j a v ha hv => ?_⟩
      obtain ⟨y, hy, hle⟩ := hg j a ha
      exact leV_rep hle (h4 j y v hy hv)
    · rw [e]
      exact (h.obj k).stay kp href rfl

theorem LeS_sound {s1 s2 : LS} (h : LeS n0 σ s1 s2) (hn : E.n0 = n0) (hs : SatL E s2 a w ρ A) : SatL E s1 a w (relρ σ ρ) A ∧ n0 ≤ s1.H.length := by
  obtain ⟨h1, h2, h3⟩ := h
  obtain ⟨h3, h4⟩ := leEK_out h3
  obtain ⟨h4, h5, h6⟩ := leHK_out h4
  obtain ⟨hl, hg⟩ := leE_get h3
  obtain ⟨hl', hg'⟩ := leH_get h4
  refine ⟨?_, ?_⟩
  · have hr := Sat.relabel hs (nodupB_out h1) h2 hn
    unfold SatL
    have hlen : s1.env.length = s2.env.length := by simpa using hl
    rw [hlen]
    refine hr.weaken (by simp [LS.toF, h5, h6]) (fun t => ?_) hg'
    show leV (s1.env.getD t .any) (mapR (lref n0 σ (listH s2.H)) (s2.env.getD t .any))
    cases hx : s1.env[t]? with
    | none => simp [List.getD, hx, leV]
    | some x =>
      obtain ⟨y, hy, hle⟩ := hg t x hx
      rw [List.getElem?_map] at hy
      obtain ⟨y0, hy0, rfl⟩ := Option.map_eq_some_iff.1 hy
      simp only [List.getD, hx, hy0, Option.getD_some]
      exact hle
  · rw [hl']
    simp only [relH, List.length_map]
    rcases Nat.eq_zero_or_pos n0 with h0 | h0
    · omega
    · have := (List.getElem?_eq_some_iff.1 (startsB_out h2 (i := n0 - 1) (by omega))).1
      omega
end Go.Vc
