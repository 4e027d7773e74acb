/-
The condition of a whole body: a state of lists, an operation's step on it, and the code walked through.
No conditions.
-/
import Derived.Test.YtgfpcjomgmdapaaVcIn
import Derived.Orders
import Derived.RangeFuncSeq
namespace Go.Vc

structure LS where
  env : List AV
  H : List AO
  F0 : List Fam
  NF : List Fam

def LS.toF (s : LS) : FS := ⟨fun t => s.env.getD t .any, listH s.H, s.F0 ++ s.NF⟩
def LS.ev (s : LS) : Operand → AV
  | .tmp t => s.env.getD t .any
  | .const v => .val v
  | .global g => .val (.pointer (some ⟨g, 0, none⟩))
  | .func f => .val (.func (.func f) #[] #[])

/-- A number written out. -/
def litK (n : Nat) (k : Nat → Prop) : Prop := match n with
  | 0 => k 0
  | 1 => k 1
  | 2 => k 2
  | 3 => k 3
  | 4 => k 4
  | 5 => k 5
  | 6 => k 6
  | 7 => k 7
  | 8 => k 8
  | 9 => k 9
  | 10 => k 10
  | 11 => k 11
  | 12 => k 12
  | 13 => k 13
  | 14 => k 14
  | 15 => k 15
  | n => k n
theorem litK_out {n : Nat} {k : Nat → Prop} (h : litK n k) : k n := by
  unfold litK at h
  split at h <;> exact h
/-- A value brought to its head form; the parts of a piece of memory too. -/
def forceC (x : AV) (k : AV → Prop) : Prop :=
  match x with
  | .any => k .any
  | .val v => k (.val v)
  | .agg cs => k (.agg cs)
  | .tup cs => k (.tup cs)
  | .ints l => k (.ints l)
  | .bytes l => k (.bytes l)
  | .sl sz l => k (.sl sz l)
  | .ro cs => k (.ro cs)
  | .ptr i o => litK i fun i => litK o fun o => k (.ptr i o)
  | .el i j o => litK i fun i => litK o fun o => k (.el i j o)
  | .own i => litK i fun i => k (.own i)
  | .sub i p q => litK i fun i => k (.sub i p q)
  | .win i o n => litK i fun i => litK o fun o => k (.win i o n)
  | .clo f i => litK i fun i => k (.clo f i)
  | .rp f i o => litK f fun f => litK o fun o => k (.rp f i o)
  | .iface t y => k (.iface t y)
def forceL : List AV → (List AV → Prop) → Prop
  | [], k => k []
  | x :: t, k => forceC x fun x => forceL t fun t => k (x :: t)
def forceB (x : AV) (k : AV → Prop) : Prop :=
  forceC x fun x => match x with
    | .agg cs => forceL cs fun cs => k (.agg cs)
    | x => k x
def forceM : List AV → (List AV → Prop) → Prop
  | [], k => k []
  | x :: t, k => forceB x fun x => forceM t fun t => k (x :: t)
def forceA (x : AV) (k : AV → Prop) : Prop :=
  forceB x fun x => match x with
    | .tup cs => forceM cs fun cs => k (.tup cs)
    | x => k x
def forceO (x : AO) (k : AO → Prop) : Prop :=
  match x with
  | .dead => k .dead
  | .cells cs => forceL cs fun cs => k (.cells cs)
  | .iarr l => k (.iarr l)
  | .arr sz l => k (.arr sz l)
def setK {α : Type} : List α → Nat → α → (List α → Prop) → Prop
  | [], _, _, k => k []
  | _ :: t, 0, v, k => k (v :: t)
  | b :: t, n + 1, v, k => setK t n v fun t' => k (b :: t')
def setHK : List AO → Nat → AO → (List AO → Prop) → Prop
  | [], _, _, _ => False
  | _ :: t, 0, v, k => k (v :: t)
  | b :: t, n + 1, v, k => setHK t n v fun t' => k (b :: t')
def mapK (f : AV → AV) : List AV → (List AV → Prop) → Prop
  | [], k => k []
  | x :: t, k => forceA (f x) fun x' => mapK f t fun t' => k (x' :: t')
def mapOK (f : AO → AO) : List AO → (List AO → Prop) → Prop
  | [], k => k []
  | x :: t, k => forceO (f x) fun x' => mapOK f t fun t' => k (x' :: t')
def snocK : List AO → List AO → (List AO → Prop) → Prop
  | [], r, k => mapOK id r k
  | x :: t, r, k => snocK t r fun t' => k (x :: t')
def appK : List Fam → List Fam → (List Fam → Prop) → Prop
  | [], r, k => k r
  | x :: t, r, k => appK t r fun t' => k (x :: t')
def putK (s : LS) (d : Option Tmp) (x : AV) (K : LS → Prop) : Prop :=
  match s with
  | ⟨env, H, F0, NF⟩ => forceA x fun x => match d with
    | none => K ⟨env, H, F0, NF⟩
    | some t => setK env t x fun env => K ⟨env, H, F0, NF⟩
def updK : List AO → List (Nat × AO) → (List AO → Prop) → Prop
  | H, [], k => k H
  | H, (i, o) :: r, k => forceO o fun o => setHK H i o fun H => updK H r k
def effK (s : LS) (d : Option Tmp) (e : Eff) (K : LS → Prop) : Prop :=
  match s, e with
  | ⟨env, H, F0, NF⟩, ⟨val, none, upd, new, []⟩ => updK H upd fun H => snocK H new fun H => putK ⟨env, H, F0, NF⟩ d val K
  | ⟨env, H, F0, NF⟩, ⟨val, some k, upd, new, []⟩ => mapK (mapR (killF k)) env fun env => mapOK (mapO (killF k)) H fun H => updK H upd fun H => snocK H new fun H => putK ⟨env, H, F0, NF⟩ d val K
  | _, _ => False

def refsC (x : AV) : List Nat := match refOf x with
  | some k => [k]
  | none => []
def refsA : AV → List Nat
  | .agg cs => cs.flatMap refsC
  | x => refsC x
def refsR : AV → List Nat
  | .tup cs => cs.flatMap refsA
  | x => refsA x
def refsO : AO → List Nat
  | .cells cs => cs.flatMap refsC
  | _ => []
def dedup : List Nat → List Nat
  | [] => []
  | k :: r => k :: (dedup r).filter (fun j => !(j == k))

/-- None of these objects is to stay as it is. -/
def offP (pk l : List Nat) (X : Prop) : Prop := match pk with
  | [] => X
  | k :: r => (l.all fun j => !(k :: r).contains j) = true ∧ X
theorem offP_out {pk l : List Nat} {X : Prop} (h : offP pk l X) : X ∧ ∀ j ∈ l, j ∉ pk := by
  unfold offP at h
  split at h
  · exact ⟨h, fun j _ => by simp⟩
  · refine ⟨h.2, fun j hj hp => ?_⟩
    have := List.all_eq_true.1 h.1 j hj
    simp only [Bool.not_eq_true', List.contains_eq_mem, decide_eq_false_iff_not] at this
    exact this hp
def tchL (e : Eff) : List Nat := e.upd.map (·.1) ++ e.kill.toList
/-- Objects that a value about to be laid into a row refers to: they are only read from then on. -/
def frzF (k : Nat) (o : AO) (r : AV) : AV := if refOf r = some k then roView o r else r
def frzK (n0 : Nat) (pk : List Nat) : List Nat → LS → (LS → Prop) → Prop
  | [], s, K => K s
  | k :: r, ⟨env, H, F0, NF⟩, K => match listH H k with
    | .dead => frzK n0 pk r ⟨env, H, F0, NF⟩ K
    | o => n0 ≤ k ∧ offP pk [k] (mapK (mapR (frzF k o)) env fun env => mapOK (mapO (frzF k o)) H fun H => setHK H k .dead fun H => frzK n0 pk r ⟨env, H, F0, NF⟩ K)
def frzOf (s : LS) (op : Op) : List Nat :=
  match op with
  | .buildSlice _ _ parts => parts.toList.flatMap fun p => refsA (s.ev p.2)
  | .store _ p x => match s.ev p with
    | .el _ _ _ => refsA (s.ev x)
    | _ => []
  | _ => []

def isPtr : AV → Bool
  | .ptr _ _ | .el _ _ _ => true
  | _ => false
/-- What is handed over, and what is only read. -/
def passOf (mode : Nat) (H : Nat → AO) (avs : List AV) : List Nat :=
  match mode with
  | 0 => []
  | 1 =>
    let p := dedup ((avs.filter isPtr).flatMap refsA)
    dedup (p ++ p.flatMap fun k => refsO (H k))
  | _ =>
    let p := dedup (avs.flatMap refsA)
    dedup (p ++ p.flatMap fun k => refsO (H k))
def nodupB : List Nat → Bool
  | [] => true
  | k :: r => !r.contains k && nodupB r
def isAlive : AO → Bool
  | .dead => false
  | _ => true

/-- The state behind a call. -/
def retK (s : LS) (d : Option Tmp) (ρc frz : List Nat) (r : AV) (hs : List AO) (nF : List Fam) (K : LS → Prop) : Prop :=
  match s, ρc, frz with
  | ⟨env, H, F0, NF⟩, [], [] => snocK H (hs.map (mapO (backF [] H.length))) fun H' => appK NF nF fun NF => putK ⟨env, H', F0, NF⟩ d (mapR (backF [] H.length) r) K
  | ⟨env, H, F0, NF⟩, ρc, frz => mapK (mapR (oldRef ρc frz (listH H) hs)) env fun env => mapOK id ((List.range (H.length + (hs.length - ρc.length))).map (retH ρc frz (listH H) H.length hs)) fun H' => appK NF nF fun NF =>
      putK ⟨env, H', F0, NF⟩ d (mapR (backF ρc H.length) r) K

def natK : List Nat → (List Nat → Prop) → Prop
  | [], k => k []
  | x :: t, k => natK t fun t => k (x :: t)
theorem natK_out : ∀ {l : List Nat} {k : List Nat → Prop}, natK l k → k l
  | [], _, h => h
  | _ :: t, _, h => natK_out (l := t) h
/-- What is only read, and handed back as such, is no longer to be written. -/
def aliK (al : Bool) (n0 : Nat) (vs : List Nat) (X : List Nat → Prop) : Prop := match al with
  | false => X []
  | true => vs.all (fun k => decide (n0 ≤ k)) = true ∧ X vs
theorem aliK_out {al : Bool} {n0 : Nat} {vs : List Nat} {X : List Nat → Prop} (h : aliK al n0 vs X) : (al = true → vs.all (fun k => decide (n0 ≤ k)) = true) ∧ X (if al then vs else []) := by
  cases al with
  | true => exact ⟨fun _ => h.1, h.2⟩
  | false => exact ⟨fun h => (by cases h), h⟩
/-- What must stay in its block is not handed to one who may move it. -/
def fixL (fx : Bool) (n0 : Nat) (ρc : List Nat) (X : Prop) : Prop := match fx with
  | false => X
  | true => ρc.all (fun k => decide (n0 ≤ k)) = true ∧ X
theorem fixL_out {fx : Bool} {n0 : Nat} {ρc : List Nat} {X : Prop} (h : fixL fx n0 ρc X) : X ∧ (fx = true → ∀ k ∈ ρc, n0 ≤ k) := by
  cases fx with
  | false => exact ⟨h, fun h => by cases h⟩
  | true => exact ⟨h.2, fun _ k hk => by simpa using List.all_eq_true.1 h.1 k hk⟩
def fixP (fx : Bool) (n0 : Nat) (k : Option Nat) (X : Prop) : Prop := match fx with
  | false => X
  | true => match k with
    | none => X
    | some k => n0 ≤ k ∧ X
theorem fixP_out {fx : Bool} {n0 : Nat} {k : Option Nat} {X : Prop} (h : fixP fx n0 k X) : X ∧ (fx = true → ∀ j, k = some j → n0 ≤ j) := by
  cases fx with
  | false => exact ⟨h, fun h => by cases h⟩
  | true => cases k with
    | none => exact ⟨h, fun _ j h => by cases h⟩
    | some k => exact ⟨h.2, fun _ j e => by cases e; exact h.1⟩
/-- Objects that were written in place: of the same make as before. -/
def sameK : List AO → List AO → Prop → Prop
  | [], [], X => X
  | .iarr l :: r, .iarr l' :: t, X => l'.length = l.length ∧ sameK r t X
  | .arr z l :: r, .arr z' l' :: t, X => z' = z ∧ l'.length = l.length ∧ roFreeO (.arr z' l') ∧ sameK r t X
  | _, _, _ => False
/-- The state behind a call that writes in place. -/
def retInK (s : LS) (d : Option Tmp) (ρc : List Nat) (r : AV) (hs : List AO) (nF : List Fam) (K : LS → Prop) : Prop :=
  match s, r, nF with
  | ⟨env, H, F0, NF⟩, .val v, [] => sameK (ρc.map (listH H)) hs (updK H (ρc.zip hs) fun H => putK ⟨env, H, F0, NF⟩ d (.val v) K)
  | _, _, _ => False
def callK (C : CT) (n0 : Nat) (pk : List Nat) (s : LS) (d : Option Tmp) (f : FuncId) (avs : List AV) (K : LS → Prop) : Prop :=
  match C.get f with
  | none => False
  | some ⟨_, mode, alias, con⟩ =>
    mapK (fun x => x) avs fun avs => natK (passOf mode (listH s.H) avs) fun ρc => natK ((dedup (avs.flatMap refsA)).filter fun k => !ρc.contains k) fun vs =>
      nodupB ρc = true ∧ ρc.all (fun k => isAlive (listH s.H k)) = true ∧ match mode with
      | 3 => offP pk ρc (con (avs.map (mapR (argView ρc vs (listH s.H)))) (calleeH ρc vs (listH s.H)) (s.F0 ++ s.NF) fun r hs nF => retInK s d ρc r hs nF K)
      | _ => fixL C.fx n0 ρc (aliK alias n0 vs fun frz =>
        offP pk (ρc ++ frz) (con (avs.map (mapR (argView ρc vs (listH s.H)))) (calleeH ρc vs (listH s.H)) (s.F0 ++ s.NF) fun r hs nF => retK s d ρc frz r hs nF K))

/-- One operation; the objects of 'pk' stay as they are. -/
def vcOp (T : TT) (C : CT) (n0 : Nat) (pk : List Nat) (o : Oper) (s : LS) (K : LS → Prop) : Prop :=
  match o.op with
  | .box _ _ | .alloc _ | .makeSlice _ _ _ => memA T (listH s.H) s.ev s.H.length o.op fun e => fixP C.fx n0 e.kill (offP pk (tchL e) (effK s o.dst e K))
  | .store _ _ _ | .buildSlice _ _ _ => frzK n0 pk (frzOf s o.op) s fun s => memA T (listH s.H) s.ev s.H.length o.op fun e => fixP C.fx n0 e.kill (offP pk (tchL e) (effK s o.dst e K))
  | .build _ _ | .slice _ _ _ _ _ => auxA T (listH s.H) s.ev o.op fun x => putK s o.dst x K
  | .makeFunc fn fi ca => match fn, fi.toList, ca.toList with
    | .func f, [], [x] => match s.ev x with
      | .ptr k 0 => match listH s.H k with
        | .cells _ => putK s o.dst (.clo f k) K
        | _ => False
      | _ => False
    | _, _, _ => False
  | .call { callee := .builtin .len, args := _, argTypes := _ } => auxA T (listH s.H) s.ev o.op fun x => putK s o.dst x K
  | .call { callee := .builtin .append, args := _, argTypes := _ } => memA T (listH s.H) s.ev s.H.length o.op fun e => fixP C.fx n0 e.kill (offP pk (tchL e) (effK s o.dst e K))
  | .call { callee := .builtin .copy, args := _, argTypes := _ } => memA T (listH s.H) s.ev s.H.length o.op fun e => fixP C.fx n0 e.kill (offP pk (tchL e) (effK s o.dst e K))
  | .call { callee := .value (.tmp t), args, argTypes := _ } => match s.env.getD t .any with
    | .val (.func (.func f) x y) => x = #[] ∧ y = #[] ∧ callK C n0 pk s o.dst f (args.toList.map s.ev) K
    | _ => False
  | .call { callee := .value (.func f), args, argTypes := _ } => callK C n0 pk s o.dst f (args.toList.map s.ev) K
  | .move _ | .assign _ | .pick _ _ _ | .binOp _ _ _ _ _ | .unOp _ _ _ | .convert _ _ _ | .nilCheck _ | .fieldAddr _ _ _ | .load _ _ | .indexAddr _ _ _ | .extract _ _ | .index _ _ _ | .makeInterface _ _ | .typeAssert _ _ _ _ =>
    valA T (listH s.H) (s.F0 ++ s.NF) o.op (o.op.operands.toList.map s.ev) fun x => putK s o.dst x K
  | _ => False

/-- An operation that only reckons or reads, what it reads being in 'pk' or only read by all. -/
def vcVal (T : TT) (pk : List Nat) (o : Oper) (s : LS) (K : LS → Prop) : Prop :=
  match o.op with
  | .build _ _ | .slice _ _ _ _ _ => auxA T (listH s.H) s.ev o.op fun x => putK s o.dst x K
  | .call { callee := .builtin .len, args := _, argTypes := _ } => auxA T (listH s.H) s.ev o.op fun x => putK s o.dst x K
  | .load _ x | .convert _ _ x => (match refOf (s.ev x) with
    | none => True
    | some k => pk.contains k = true) ∧ valA T (listH s.H) (s.F0 ++ s.NF) o.op (o.op.operands.toList.map s.ev) fun x => putK s o.dst x K
  | .move _ | .assign _ | .pick _ _ _ | .binOp _ _ _ _ _ | .unOp _ _ _ | .nilCheck _ | .fieldAddr _ _ _ | .indexAddr _ _ _ | .extract _ _ | .index _ _ _ | .makeInterface _ _ | .typeAssert _ _ _ _ =>
    valA T (listH s.H) (s.F0 ++ s.NF) o.op (o.op.operands.toList.map s.ev) fun x => putK s o.dst x K
  | _ => False

/-- A slot whose truth value is now known. -/
def setB (s : LS) (d : Tmp) (b : Bool) (K : LS → Prop) : Prop :=
  match s with
  | ⟨env, H, F0, NF⟩ => setK env d (.val (.bool b)) fun env => K ⟨env, H, F0, NF⟩
def setC (s : LS) (c : Operand) (b : Bool) (K : LS → Prop) : Prop :=
  match c with
  | .tmp d => setB s d b K
  | _ => K s
/-- An operation under its guard: carried out by X, or passed over. -/
def vcG (ops : Array Oper) (o : Oper) (X : LS → (LS → Prop) → Prop) (s : LS) (K : LS → Prop) : Prop :=
  match o.guard with
  | none => X s K
  | some (j, want) => match (ops[j]?).bind (·.dst) with
    | none => False
    | some d => match s.env.getD d .any with
      | .val (.bool b) => brK b (setB s d true fun s => if want then X s K else putK s o.dst (.val (.tuple #[])) K) (setB s d false fun s => if want then putK s o.dst (.val (.tuple #[])) K else X s K)
      | .val (.tuple _) => putK s o.dst (.val (.tuple #[])) K
      | _ => False

/-- The operations of a region in the order of the text; 'ops' holds all, for the guards. -/
def vcOps (T : TT) (C : CT) (n0 : Nat) (ops : Array Oper) : List Oper → LS → (LS → Prop) → Prop
  | [], s, K => K s
  | o :: r, s, K => vcG ops o (vcOp T C n0 [] o) s fun s => vcOps T C n0 ops r s K

/-- The order in which a region that draws its order is looked at: 'take': an operation that only reads, ahead of all others; 'run': the only one that can come; 'two', 'three': one of these comes. -/
inductive Plan where
  | done
  | take (i : Nat) (p : Plan)
  | run (i : Nat) (p : Plan)
  | two (i : Nat) (p : Plan) (j : Nat) (q : Plan)
  | three (i : Nat) (p : Plan) (j : Nat) (q : Plan) (k : Nat) (r : Plan)

/-- Both ways. -/
structure Both (X Y : Prop) : Prop where
  l : X
  r : Y
def vcPlan (T : TT) (C : CT) (n0 : Nat) (pk tl : List Nat) (ops : Array Oper) : Plan → LS → (LS → Prop) → Prop
  | .done, s, K => K s
  | .take i p, s, K => match ops[i]? with
    | none => False
    | some o => vcG ops o (vcVal T pk o) s fun s => vcPlan T C n0 pk tl ops p s K
  | .run i p, s, K => match ops[i]? with
    | none => False
    | some o => vcG ops o (vcOp T C n0 (if tl.contains i then [] else pk) o) s fun s => vcPlan T C n0 pk tl ops p s K
  | .two i p j q, s, K => match ops[i]?, ops[j]? with
    | some o, some o' => Both (vcG ops o (vcOp T C n0 (if tl.contains i then [] else pk) o) s fun s => vcPlan T C n0 pk tl ops p s K) (vcG ops o' (vcOp T C n0 (if tl.contains j then [] else pk) o') s fun s => vcPlan T C n0 pk tl ops q s K)
    | _, _ => False
  | .three i p j q k r, s, K => match ops[i]?, ops[j]?, ops[k]? with
    | some o, some o', some o'' => Both (vcG ops o (vcOp T C n0 (if tl.contains i then [] else pk) o) s fun s => vcPlan T C n0 pk tl ops p s K) (Both (vcG ops o' (vcOp T C n0 (if tl.contains j then [] else pk) o') s fun s => vcPlan T C n0 pk tl ops q s K)
        (vcG ops o'' (vcOp T C n0 (if tl.contains k then [] else pk) o'') s fun s => vcPlan T C n0 pk tl ops r s K))
    | _, _, _ => False

/-- The entry and what the condition knows of it. -/
def Entry.At (E : Entry) (n0 : Nat) (C : CT) : Prop := E.n0 = n0 ∧ (E.fx = true → C.fx = true)
/-- What is asked of the table of contracts. -/
def COk1 (P : Program) (C : CT) : Prop := ∀ f con, C.get f = some con → Keeps' P f con ∧ ∃ fn, P.funcs[f]? = some fn ∧ (fn.name == "runtime.NumGoroutine") = false ∧ fn.body.isNone = false
def CellAt (c : Ctx) (b : Nat) (x : AV) : Prop := ∃ v T, c.w.heap[b]? = some (.cells #[v] T (0, 0)) ∧ v.oneCell' = true ∧ RepV c x v
/-- The iterator f over its variable in block b: n rounds; between two of them it writes its variable or nothing. -/
def IterC (P : Program) (f : FuncId) (n : Nat) (args : Nat → List Value) (cell : Nat → AV) : Prop :=
  ∀ (b l : Nat) (J Jm : Nat → World → Prop) (Jx : World → Prop) (W : World),
    (∀ i W, J i W → ∃ c : Ctx, c.w = W ∧ CellAt c b (cell i)) → (∀ i W, i < n → Jm i W → ∃ c : Ctx, c.w = W ∧ CellAt c b (cell i)) →
    (∀ i W, i < n → J i W → YieldAt Fence.wide 0 P l (args i).toArray W fun e W' => (e = .returned (.bool true) ∧ Jm i W') ∨ (e = .returned (.bool false) ∧ Jx W')) →
    (∀ i W u v T, i < n → Jm i W → W.heap[b]? = some (.cells #[u] T (0, 0)) → v.oneCell' = true → (∀ c : Ctx, RepV c (cell (i + 1)) v) → J (i + 1) (W.setRow b #[v])) →
    (∀ i W, i < n → Jm i W → cell (i + 1) = cell i → J (i + 1) W) → J 0 W →
    CallsIn Fence.wide 0 P f (#[.func (.yield l) #[] #[]] ++ #[.pointer (some ⟨b, 0, none⟩)]) W fun e W' => (∃ v, e = .returned v) ∧ (J n W' ∨ Jx W')
def COk2 (P : Program) (C : CT) : Prop := ∀ f it, C.it f = some it → (∀ args w, (callFunc f args).run P w = .ok (.enter f args) w) ∧ ∀ c0 n args cell, it c0 n args cell → cell 0 = c0 ∧ IterC P f n args cell
def COk (P : Program) (C : CT) : Prop := COk1 P C ∧ COk2 P C

inductive Ex where
  | normal
  | exit (id : Nat)
  | ret

/-- 's1' says no more than 's2': object j of s1 is object σ j of s2; what s1 does not name is only read from here on. -/
def lref (n0 : Nat) (σ : List Nat) (H2 : Nat → AO) (r : AV) : AV :=
  match refOf r with
  | none => r
  | some k => match σ.idxOf? k with
    | some j => reIdx j r
    | none => if n0 ≤ k then roView (H2 k) r else .any
def leV (x y : AV) : Prop :=
  match x, y with
  | .any, _ => True
  | .ints l, .val (.slice none 0 0) => l = []
  | .sl _ l, .val (.slice none 0 0) => l = []
  | .ints l, .ints l' => l = l'
  | .bytes l, .bytes l' => l = l'
  | .sl z l, .sl z' l' => z = z' ∧ l = l'
  | .val (.int k a), .val (.int k' b) => k = k' ∧ a = b
  | .val (.bool a), .val (.bool b) => a = b
  | x, y => x = y
def leE : List AV → List AV → Prop
  | [], [] => True
  | .any :: r, _ :: t => leE r t
  | x :: r, y :: t => leV x y ∧ leE r t
  | _, _ => False
def leO (x y : AO) : Prop :=
  match x, y with
  | .dead, .dead => True
  | .cells cs, .cells ds => leE cs ds
  | .iarr l, .iarr l' => l = l'
  | .arr z l, .arr z' l' => z = z' ∧ l = l'
  | x, y => x = y
def leH : List AO → List AO → Prop
  | [], [] => True
  | x :: r, y :: t => leO x y ∧ leH r t
  | _, _ => False
def relH (n0 : Nat) (σ : List Nat) (H : Nat → AO) : List AO := σ.map fun k => mapO (lref n0 σ H) (H k)
def startsB (σ : List Nat) (n0 : Nat) : Bool := (List.range n0).all fun i => σ[i]? == some i
/-- The same, laid out one behind the other. -/
def leVK (x y : AV) (X : Prop) : Prop :=
  match x, y with
  | .any, _ => X
  | .ints l, .val (.slice none 0 0) => l = [] ∧ X
  | .sl _ l, .val (.slice none 0 0) => l = [] ∧ X
  | .ints l, .ints l' => l = l' ∧ X
  | .bytes l, .bytes l' => l = l' ∧ X
  | .sl z l, .sl z' l' => z = z' ∧ l = l' ∧ X
  | .val (.int k a), .val (.int k' b) => k = k' ∧ a = b ∧ X
  | .val (.bool a), .val (.bool b) => a = b ∧ X
  | x, y => x = y ∧ X
def leEK : List AV → List AV → Prop → Prop
  | [], [], X => X
  | x :: r, y :: t, X => leVK x y (leEK r t X)
  | _, _, _ => False
def leOK (x y : AO) (X : Prop) : Prop :=
  match x, y with
  | .dead, .dead => X
  | .cells cs, .cells ds => leEK cs ds X
  | .iarr l, .iarr l' => l = l' ∧ X
  | .arr z l, .arr z' l' => z = z' ∧ l = l' ∧ X
  | x, y => x = y ∧ X
def leHK : List AO → List AO → Prop → Prop
  | [], [], X => X
  | x :: r, y :: t, X => leOK x y (leHK r t X)
  | _, _, _ => False
theorem leVK_out {x y : AV} {X : Prop} (h : leVK x y X) : leV x y ∧ X := by
  unfold leVK at h
  unfold leV
  split at h
  case h_6 => exact ⟨⟨h.1, h.2.1⟩, h.2.2⟩
  case h_7 => exact ⟨⟨h.1, h.2.1⟩, h.2.2⟩
  all_goals first
    | exact ⟨trivial, h⟩
    | exact h
    | skip
theorem leEK_out : ∀ {xs ys : List AV} {X : Prop}, leEK xs ys X → leE xs ys ∧ X
  | [], [], _, h => ⟨trivial, h⟩
  | x :: r, y :: t, X, h => by
    obtain ⟨h1, h2⟩ := leVK_out h
    obtain ⟨h3, h4⟩ := leEK_out h2
    refine ⟨?_, h4⟩
    cases x <;> first | exact ⟨h1, h3⟩ | exact h3
  | [], _ :: _, _, h => h.elim
  | _ :: _, [], _, h => h.elim
theorem leOK_out {x y : AO} {X : Prop} (h : leOK x y X) : leO x y ∧ X := by
  unfold leOK at h
  unfold leO
  split at h
  · exact ⟨trivial, h⟩
  · exact leEK_out h
  · exact h
  · exact ⟨⟨h.1, h.2.1⟩, h.2.2⟩
  · exact h
theorem leHK_out : ∀ {xs ys : List AO} {X : Prop}, leHK xs ys X → leH xs ys ∧ X
  | [], [], _, h => ⟨trivial, h⟩
  | x :: r, y :: t, X, h => by
    obtain ⟨h1, h2⟩ := leOK_out h
    obtain ⟨h3, h4⟩ := leHK_out h2
    exact ⟨⟨h1, h3⟩, h4⟩
  | [], _ :: _, _, h => h.elim
  | _ :: _, [], _, h => h.elim
def LeS (n0 : Nat) (σ : List Nat) (s1 s2 : LS) : Prop :=
  nodupB σ = true ∧ startsB σ n0 = true ∧ leEK s1.env (s2.env.map (mapR (lref n0 σ (listH s2.H)))) (leHK s1.H (relH n0 σ (listH s2.H)) (s1.F0 = s2.F0 ∧ s1.NF = s2.NF))

/-- A state brought to its head form. -/
def forceS (s : LS) (K : LS → Prop) : Prop := match s with
  | ⟨env, H, F0, NF⟩ => mapK (fun x => x) env fun env => mapOK (fun o => o) H fun H => K ⟨env, H, F0, NF⟩
def Loop (n0 : Nat) (V : LS → (Ex → LS → Prop) → Prop) (s : LS) (K : Ex → LS → Prop) : Prop :=
  ∃ (ι : Type) (mk : ι → LS) (J : ι → Prop) (m : ι → Nat), (∃ g σ, J g ∧ LeS n0 σ (mk g) s) ∧
    ∀ g, J g → forceS (mk g) fun s => V s fun e s' => match e with
      | .normal => ∃ g' σ, J g' ∧ m g' < m g ∧ LeS n0 σ (mk g') s'
      | e => K e s'

/-- A region that draws its order: left to rules of its own. -/
structure Draw (T : TT) (C : CT) (n0 : Nat) (id : Nat) (ops : Array Oper) (s : LS) (K : LS → Prop) : Prop where
  out : ∀ (P : Program) (Q : Exit → Act → World → Prop) (E : Entry) (a : Act) (w : World) (ρ : Nat → Nat) (A : FA), TOk P T → COk P C → E.At n0 C → E.n0 ≤ s.H.length →
    Sat E s.toF s.env.length a w ρ A → (∀ s' a' w' ρ' A', K s' → E.n0 ≤ s'.H.length → Sat E s'.toF s'.env.length a' w' ρ' A' → Q .normal a' w') → (∀ c a w, ¬ Q (.panic c) a w) → ¬ LetsOut Q →
    wpAny P .any ops Q ops.size (Array.replicate ops.size false) a { w with drawn := w.drawn + 1 }
def Ex.to : Ex → Exit
  | .normal => .normal
  | .exit i => .exit i
  | .ret => .ret
/-- A range over a function: likewise. -/
structure Rng (T : TT) (C : CT) (n0 : Nat) (g : Operand) (ps : Array Tmp) (assign body : Code) (s : LS) (K : Ex → LS → Prop) : Prop where
  out : ∀ (P : Program) (Q : Exit → Act → World → Prop) (E : Entry) (a : Act) (w : World) (ρ : Nat → Nat) (A : FA), TOk P T → COk P C → P.follows .mixedOrders = true → E.At n0 C → E.n0 ≤ s.H.length →
    Sat E s.toF s.env.length a w ρ A → (∀ e s' a' w' ρ' A', K e s' → E.n0 ≤ s'.H.length → Sat E s'.toF s'.env.length a' w' ρ' A' → Q e.to a' w') → (Code.rangeFunc g ps assign body).wpIn Fence.wide 0 P Q a w

def vc (T : TT) (C : CT) (n0 : Nat) : Code → LS → (Ex → LS → Prop) → Prop
  | .skip, s, K => K .normal s
  | .region id ops draw, s, K => if draw then Draw T C n0 id ops s (K .normal) else vcOps T C n0 ops ops.toList s (K .normal)
  | .seq x y, s, K => vc T C n0 x s fun e s => match e with
    | .normal => vc T C n0 y s K
    | .exit i => K (.exit i) s
    | .ret => K .ret s
  | .cond c x y, s, K => match s.ev c with
    | .val (.bool b) => brK b (setC s c true fun s => vc T C n0 x s K) (setC s c false fun s => vc T C n0 y s K)
    | _ => False
  | .block id c, s, K => vc T C n0 c s fun e s => match e with
    | .normal => K .normal s
    | .exit i => if i = id then K .normal s else K (.exit i) s
    | .ret => K .ret s
  | .loop c, s, K => Loop n0 (vc T C n0 c) s K
  | .exit i, s, K => K (.exit i) s
  | .ret, s, K => K .ret s
  | .rangeFunc g ps x y, s, K => Rng T C n0 g ps x y s K
  | _, _, _ => False

/-- The results, read from their slots. -/
def resK (T : TT) (s : LS) : List ResultVar → (List AV → Prop) → Prop
  | [], K => K []
  | .tmp t :: r, K => forceA (s.env.getD t .any) fun x => resK T s r fun xs => K (x :: xs)
  | .cell t ty :: r, K => match s.env.getD t .any with
    | .ptr k off => loadA T (listH s.H) (s.F0 ++ s.NF) ty (.ptr k off) fun x => forceA x fun x => resK T s r fun xs => K (x :: xs)
    | _ => False
/-- Surely no tuple. -/
def notTup : AV → Bool
  | .any | .tup _ => false
  | .val (.tuple _) => false
  | _ => true

/-- What is handed back: the objects that came in, and the new ones that are still named. -/
def keepOf (n0 : Nat) (H : List AO) (r : AV) : List Nat :=
  let p := (dedup (refsR r ++ (H.take n0).flatMap refsO)).filter fun k => decide (n0 ≤ k)
  (dedup (p ++ p.flatMap fun k => refsO (listH H k))).filter fun k => decide (n0 ≤ k)
def roFreeB : AO → Bool
  | .dead | .iarr _ => true
  | .cells cs => cs.all roFreeC
  | .arr _ l => l.all fun e => e.all roFreeC
def roK (al : Bool) (r : AV) (hs : List AO) (nF : List Fam) (X : Prop) : Prop := match al with
  | true => X
  | false => (roFree r = true ∧ hs.all roFreeB = true ∧ nF = []) ∧ X
def finVC (n0 : Nat) (con : Con) (s : LS) (r : AV) (K : AV → List AO → List Fam → Prop) : Prop :=
  match s with
  | ⟨_, H, _, NF⟩ => natK (keepOf n0 H r) fun kept => natK (List.range n0 ++ kept) fun σ => forceA (mapR (lref n0 σ (listH H)) r) fun r' => mapOK (fun o => o) (relH n0 σ (listH H)) fun hs =>
    nodupB σ = true ∧ startsB σ n0 = true ∧ σ.length ≤ n0 + con.nnew ∧ roK con.alias r' hs NF (K r' hs NF)

def finK (T : TT) (n0 : Nat) (con : Con) (res : List ResultVar) (s : LS) (K : AV → List AO → List Fam → Prop) : Prop :=
  resK T s res fun
    | [x] => finVC n0 con s x K
    | xs => xs.all notTup = true ∧ finVC n0 con s (.tup xs) K

/-- The whole condition of a body. -/
def bodyVC (T : TT) (C : CT) (con : Con) (ntmps : Nat) (res : List ResultVar) (c : Code) (aargs : List AV) (hs : List AO) (Fs : List Fam) (K : AV → List AO → List Fam → Prop) : Prop :=
  vc T C hs.length c ⟨aargs ++ List.replicate (ntmps - aargs.length) .any, hs, Fs, []⟩ fun e s => match e with
    | .exit _ => False
    | _ => s.F0 = Fs ∧ finK T hs.length con res s K
end Go.Vc
