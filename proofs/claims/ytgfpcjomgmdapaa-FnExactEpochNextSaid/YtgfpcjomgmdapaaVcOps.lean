/-
The abstract operations of the condition generator: what each operation of the translation asks, and what it leaves.
No conditions.
-/
import Derived.Test.YtgfpcjomgmdapaaVcSat
namespace Go.Vc

/-- What the operations ask of a type. 'kind': 1 slice, 2 array, 3 struct, 4 string, 5 bool, 6 an integer, 7 pointer, 8 interface, 0 other. -/
structure TI where
  kind : Nat
  agg : Bool
  size : Nat
  bytes : Nat
  zero : List Value
  fields : List (Nat × Nat)
  elem : TypeId
  alen : Nat
  ik : IntKind

structure TyOk (P : Program) (t : TypeId) (ti : TI) : Prop where
  info : ∃ i z, P.info? t = some i ∧ i.size = ti.size ∧ i.bytes = ti.bytes ∧ i.zero = some z ∧ z.cells.toList = ti.zero
  pos : 0 < ti.size
  one : ∀ v ∈ ti.zero, v.oneCell' = true
  zlen : ti.zero.length = ti.size
  agg : ∀ w, (isAgg t).run P w = .ok ti.agg w
  sz1 : ti.agg = false → ti.size = 1
  slice : ti.kind = 1 → P.underlying t = some (.slice ti.elem)
  array : ti.kind = 2 → P.underlying t = some (.array ti.alen ti.elem)
  struct : ti.kind = 3 → ∃ fs, P.underlying t = some (.struct fs) ∧ (ti.fields = fs.toList.map fun f => (f.offset, P.cellsOf f.type)) ∧ ∀ f ∈ fs, 0 < P.cellsOf f.type
  string : ti.kind = 4 → P.underlying t = some .string
  bool : ti.kind = 5 → P.underlying t = some .bool
  int : ti.kind = 6 → P.underlying t = some (.int ti.ik)
  ptr : ti.kind = 7 → P.underlying t = some (.pointer ti.elem)
  iface : ti.kind = 8 → ∃ ms, P.underlying t = some (.interface ms)
  zagg : ti.agg = true → ∃ i vs, P.info? t = some i ∧ i.zero = some (.agg vs)

abbrev TT := TypeId → Option TI
def TOk (P : Program) (T : TT) : Prop := ∀ t ti, T t = some ti → TyOk P t ti

/-- What a call asks and leaves: 'nnew' objects at most are new; 'mode' 0: it reads what it is given; 1: pointers are handed over; 2: every reference is; 3: every reference is, and all stays in its block, with its size. -/
structure Con where
  nnew : Nat
  mode : Nat
  alias : Bool
  C : List AV → List AO → List Fam → (AV → List AO → List Fam → Prop) → Prop
/-- An iterator that has captured one variable: what this holds at first, how many rounds there are, what each is given, what the variable holds at each round. -/
abbrev It := AV → Nat → (Nat → List Value) → (Nat → AV) → Prop
/-- The contracts at hand; 'fx': whether what came in must stay in its block. -/
structure CT where
  get : FuncId → Option Con
  fx : Bool
  it : FuncId → Option It := fun _ => none

structure Eff where
  val : AV
  kill : Option Nat := none
  upd : List (Nat × AO) := []
  new : List AO := []
  newF : List Fam := []

def extH (H : Nat → AO) (n : Nat) : List AO → Nat → AO
  | [] => H
  | o :: r => extH (setH H n o) (n + 1) r
def updH (H : Nat → AO) : List (Nat × AO) → Nat → AO
  | [] => H
  | (k, o) :: r => updH (setH H k o) r
def killE (kill : Option Nat) (env : Nat → AV) : Nat → AV := match kill with
  | none => env
  | some k => fun t => mapR (killF k) (env t)
def killH (kill : Option Nat) (H : Nat → AO) : Nat → AO := match kill with
  | none => H
  | some k => fun i => mapO (killF k) (H i)
def addF (F : List Fam) : List Fam → List Fam
  | [] => F
  | l => F ++ l
def applyF (S : FS) (tm n : Nat) (d : Option Tmp) (e : Eff) : FS :=
  ⟨setE (killE e.kill S.env) tm d e.val, extH (updH (killH e.kill S.H) e.upd) n e.new, addF S.F e.newF⟩

/-- What a step leaves alone: all but the objects that it touches. -/
structure Fr (H : Nat → AO) (ρ : Nat → Nat) (w : World) (tch : Nat → Prop) (H' : Nat → AO) (ρ' : Nat → Nat) (w' : World) : Prop where
  size : w.heap.size ≤ w'.heap.size
  same : ∀ b, b < w.heap.size → (∀ k, alive H k → tch k → ρ k ≠ b) → w'.heap[b]? = w.heap[b]?
  src : ∀ k, alive H' k → (alive H k ∧ ρ' k = ρ k) ∨ w.heap.size ≤ ρ' k
  keep : ∀ k, alive H k → ¬ tch k → alive H' k ∧ ρ' k = ρ k
theorem Fr.refl {H : Nat → AO} {ρ : Nat → Nat} {w : World} {tch : Nat → Prop} : Fr H ρ w tch H ρ w := ⟨Nat.le_refl _, fun _ _ _ => rfl, fun _ h => .inl ⟨h, rfl⟩, fun _ h _ => ⟨h, rfl⟩⟩
theorem Fr.of_step {E : Entry} {H : Nat → AO} {w : World} {ρ : Nat → Nat} {A : FA} {k : Nat} {o : AO} {b : Nat} {w' : World} {H' : Nat → AO} (s : StepOk E H w ρ A k o b w' H') {tch : Nat → Prop} (hk : alive H k → tch k) : Fr H ρ w tch H' (setρ ρ k b) w' := by
  refine ⟨s.size, fun b' hb hn => s.same b' hb fun ha => (hn k ha (hk ha)).symm, fun i hi => ?_, fun i hi hn => ?_⟩
  · by_cases e : i = k
    · subst e
      have hne : o ≠ .dead := by rw [← s.at_]; exact hi
      simp only [setρ, if_true]
      exact (s.here hne).2
    · simp only [setρ, if_neg e]
      exact .inl ⟨(s.keep i e).1 hi, trivial⟩
  · have e : i ≠ k := by rintro rfl; exact hn (hk hi)
    simp only [setρ, if_neg e]
    exact ⟨(s.keep i e).2 hi, trivial⟩
def tchE (e : Eff) (k : Nat) : Prop := (∃ o, (k, o) ∈ e.upd) ∨ e.kill = some k

def Fin (E : Entry) (S : FS) (tm n : Nat) (d : Option Tmp) (ρ₀ : Nat → Nat) (w₀ : World) (K : Eff → Prop) : Act → World → Prop :=
  fun a' w' => ∃ e, K e ∧ ∃ ρ A, Sat E (applyF S tm n d e) tm a' w' ρ A ∧ Fr S.H ρ₀ w₀ (tchE e) (applyF S tm n d e).H ρ w'

/-- In the range of the kind. -/
def rng (k : IntKind) (n : Int) : Prop := match k with
  | .i64 => -9223372036854775808 ≤ n ∧ n ≤ 9223372036854775807
  | .u8 => 0 ≤ n ∧ n ≤ 255
  | k => k.wrap n = n
theorem rng_wrap {k : IntKind} {n : Int} (h : rng k n) : k.wrap n = n := by
  cases k <;> simp only [rng] at h <;> first | exact h | (simp only [IntKind.wrap, IntKind.bits, IntKind.signed]; simp; omega)

/-- One way or the other. -/
def brK (b : Bool) (X Y : Prop) : Prop := match b with
  | true => X
  | false => Y
theorem brK_out {b : Bool} {X Y : Prop} (h : brK b X Y) : (b = true → X) ∧ (b = false → Y) := by cases b <;> simp_all [brK]
theorem brK_in {b : Bool} {X Y : Prop} (h1 : b = true → X) (h2 : b = false → Y) : brK b X Y := by cases b <;> simp_all [brK]
theorem brK_dec {p : Prop} [Decidable p] {X Y : Prop} (h1 : p → X) (h2 : ¬p → Y) : brK (decide p) X Y := brK_in (fun h => h1 (of_decide_eq_true h)) (fun h => h2 (of_decide_eq_false h))
theorem brK_ndec {p : Prop} [Decidable p] {X Y : Prop} (h1 : ¬p → X) (h2 : p → Y) : brK (!decide p) X Y := brK_in (fun h => h1 (by simpa using h)) (fun h => h2 (by simpa using h))
theorem brK_not {b : Bool} {X Y : Prop} (h1 : b = false → X) (h2 : b = true → Y) : brK (!b) X Y := brK_in (fun h => h1 (by simpa using h)) (fun h => h2 (by simpa using h))

/-- A value that stands as it is. -/
def outV (K : Eff → Prop) (x : AV) : Prop := K { val := x }

def binA (op : BinOp) (x y : AV) (K : AV → Prop) : Prop :=
  match x, y with
  | .val (.int k a), .val (.int k' b) =>
    match op with
    | .add => k = k' ∧ rng k (a + b) ∧ K (.val (.int k (a + b)))
    | .sub => k = k' ∧ rng k (a - b) ∧ K (.val (.int k (a - b)))
    | .mul => k = k' ∧ rng k (a * b) ∧ K (.val (.int k (a * b)))
    | .quo => k = k' ∧ 0 ≤ a ∧ 0 < b ∧ rng k (a / b) ∧ K (.val (.int k (a / b)))
    | .rem => k = k' ∧ 0 ≤ a ∧ 0 < b ∧ K (.val (.int k (a % b)))
    | .xor => k = k' ∧ K (.val (.int k (bits .xor k a b)))
    | .and => k = k' ∧ K (.val (.int k (bits .and k a b)))
    | .or => k = k' ∧ K (.val (.int k (bits .or k a b)))
    | .eql => k = k' ∧ K (B (decide (a = b)))
    | .neq => k = k' ∧ K (B (!decide (a = b)))
    | .lss => k = k' ∧ K (B (decide (a < b)))
    | .leq => k = k' ∧ K (B (decide (a ≤ b)))
    | .gtr => k = k' ∧ K (B (decide (b < a)))
    | .geq => k = k' ∧ K (B (decide (b ≤ a)))
    | _ => False
  | .val (.string a), .val (.string b) =>
    match op with
    | .add => a.size + b.size ≤ 9223372036854775807 ∧ K (.val (.string (a ++ b)))
    | .eql => K (B (a.toList == b.toList))
    | .neq => K (B (!(a.toList == b.toList)))
    | _ => False
  | _, _ => False

def binB (T : TT) (op : BinOp) (t : TypeId) (x y : AV) (K : AV → Prop) : Prop :=
  match x, y with
  | .val (.bool a), .val (.bool b) =>
    match T t with
    | some ti => ti.kind = 5 ∧ match op with
      | .eql => K (B (a == b))
      | .neq => K (B (!(a == b)))
      | _ => False
    | none => False
  | x, y => binA op x y K

def eqK (op : BinOp) (b : Bool) (K : AV → Prop) : Prop := match op with
  | .eql => K (B b)
  | .neq => K (B (!b))
  | _ => False
/-- A comparison with nil. -/
def nilA' (T : TT) (op : BinOp) (t : TypeId) (cst : Bool) (x y : AV) (K : AV → Prop) : Prop :=
  match T t with
  | none => False
  | some ti => match x, y with
    | .val .nilIface, .val .nilIface => ti.kind = 8 ∧ cst = true ∧ eqK op true K
    | .iface _ _, .val .nilIface => ti.kind = 8 ∧ eqK op false K
    | .val (.pointer none), .val (.pointer none) => ti.kind = 7 ∧ eqK op true K
    | .ptr _ _, .val (.pointer none) => ti.kind = 7 ∧ eqK op false K
    | .el _ _ _, .val (.pointer none) => ti.kind = 7 ∧ eqK op false K
    | .rp _ _ _, .val (.pointer none) => ti.kind = 7 ∧ eqK op false K
    | .ro _, .val (.pointer none) => ti.kind = 7 ∧ eqK op false K
    | _, _ => False
def binC (T : TT) (op : BinOp) (t : TypeId) (cst : Bool) (x y : AV) (K : AV → Prop) : Prop :=
  match y with
  | .val .nilIface => nilA' T op t cst x y K
  | .val (.pointer none) => nilA' T op t cst x y K
  | y => binB T op t x y K
def isConst : Operand → Bool
  | .const _ => true
  | _ => false

def unA (op : UnOp) (x : AV) (K : AV → Prop) : Prop :=
  match op, x with
  | .not, .val (.bool b) => K (B (!b))
  | .neg, .val (.int k n) => rng k (0 - n) ∧ K (.val (.int k (0 - n)))
  | _, _ => False

def ikK (ik : IntKind) (k : IntKind → Prop) : Prop := match ik with
  | .i8 => k .i8
  | .i16 => k .i16
  | .i32 => k .i32
  | .i64 => k .i64
  | .u8 => k .u8
  | .u16 => k .u16
  | .u32 => k .u32
  | .u64 => k .u64
theorem ikK_out {ik : IntKind} {k : IntKind → Prop} (h : ikK ik k) : k ik := by cases ik <;> exact h
def convA (T : TT) (src dst : TypeId) (x : AV) (K : AV → Prop) : Prop :=
  match x, T src, T dst with
  | .val (.int _ n), some ts, some ti => ts.kind = 6 ∧ ti.kind = 6 ∧ ikK ti.ik fun ik => rng ik n ∧ K (.val (.int ik n))
  | .val (.string s), some ts, some ti => ts.kind = 4 ∧ ti.kind = 4 ∧ K (.val (.string s))
  | _, _, _ => False

/-- A slice of one byte as a text. -/
def convB (T : TT) (H : Nat → AO) (src dst : TypeId) (x : AV) (K : AV → Prop) : Prop :=
  match x with
  | .own k => match H k, T src, T dst with
    | .arr _ [[.val (.int .u8 n)]], some ts, some ti => ts.kind = 1 ∧ ti.kind = 4 ∧ (∃ te, T ts.elem = some te ∧ te.kind = 6 ∧ te.ik = .u8) ∧ 0 ≤ n ∧ n < 256 ∧ K (.val (.string ⟨#[UInt8.ofNat n.toNat]⟩))
    | _, _, _ => False
  | x => convA T src dst x K
def lenA (H : Nat → AO) (x : AV) (K : AV → Prop) : Prop :=
  match x with
  | .ints l => K (I l.length)
  | .bytes l => K (I l.length)
  | .sl _ l => K (I l.length)
  | .own k => match H k with
    | .iarr l => K (I l.length)
    | .arr _ l => K (I l.length)
    | _ => False
  | .sub _ lo hi => K (I ((hi - lo : Nat) : Int))
  | .win _ _ n => K (I n)
  | .val (.slice _ n _) => K (I n)
  | _ => False

def fieldAddrA (T : TT) (t : TypeId) (x : AV) (f : Nat) (K : AV → Prop) : Prop :=
  match T t with
  | some ti => ti.kind = 3 ∧ match ti.fields[f]? with
    | some (o, s) => 0 < s ∧ match x with
      | .ptr k off => K (.ptr k (off + o))
      | .el k i off => K (.el k i (off + o))
      | .rp g i off => K (.rp g i (off + o))
      | .ro cs => K (.ro (cs.drop o))
      | _ => False
    | none => False
  | none => False

/-- A piece of a row as a value of a type. -/
def pieceA (ti : TI) (cs : List AV) (K : AV → Prop) : Prop :=
  if ti.agg then ti.size ≤ cs.length ∧ K (.agg (cs.take ti.size))
  else match cs with
    | c :: _ => K c
    | [] => False

def loadA (T : TT) (H : Nat → AO) (F : List Fam) (t : TypeId) (x : AV) (K : AV → Prop) : Prop :=
  match T t with
  | some ti => match x with
    | .ro cs => pieceA ti cs K
    | .ptr k off => match H k with
      | .cells cs => pieceA ti (cs.drop off) K
      | _ => False
    | .el k i off => match H k with
      | .iarr l => off = 0 ∧ ti.agg = false ∧ ∀ x, l[i]? = some x → K (I x)
      | .arr _ l => ∀ e, l[i]? = some e → pieceA ti (e.drop off) K
      | _ => False
    | .rp g i off => match F[g]? with
      | some fam => i < fam.objs.length ∧ ∀ cs, fam.objs[i]? = some cs → pieceA ti (cs.drop off) K
      | none => False
    | .val (.pointer (some ⟨g, off, none⟩)) => match pinOf F g with
      | some cs => pieceA ti (cs.drop off) K
      | none => False
    | _ => False
  | none => False

def indexA (T : TT) (H : Nat → AO) (t : TypeId) (x i : AV) (K : AV → Prop) : Prop :=
  match T t, i with
  | some ti, .val (.int _ n) =>
    match x with
    | .ints l => ti.kind = 1 ∧ 0 ≤ n ∧ n < l.length ∧ (∃ te, T ti.elem = some te ∧ te.size = 1) ∧ ∀ x, l[n.toNat]? = some x → K (.ro [I x])
    | .bytes l => ti.kind = 1 ∧ 0 ≤ n ∧ n < l.length ∧ (∃ te, T ti.elem = some te ∧ te.size = 1) ∧ ∀ x, l[n.toNat]? = some x → x.toNat < 256 → K (.ro [.val (.int .u8 x.toNat)])
    | .sl sz l => ti.kind = 1 ∧ 0 ≤ n ∧ n < l.length ∧ (∃ te, T ti.elem = some te ∧ te.size = sz) ∧ ∀ e, l[n.toNat]? = some e → K (.ro e)
    | .own k => ti.kind = 1 ∧ 0 ≤ n ∧ (match (H k).info with
      | some (sz, m) => n < m ∧ ∃ te, T ti.elem = some te ∧ te.size = sz
      | none => False) ∧ K (.el k n.toNat 0)
    | .sub k lo hi => ti.kind = 1 ∧ 0 ≤ n ∧ (match (H k).info with
      | some (sz, _) => n < ((hi - lo : Nat) : Int) ∧ ∃ te, T ti.elem = some te ∧ te.size = sz
      | none => False) ∧ K (.el k (lo + n.toNat) 0)
    | .ptr k off => ti.kind = 2 ∧ 0 ≤ n ∧ n < ti.alen ∧ ∃ te, T ti.elem = some te ∧ K (.ptr k (off + n.toNat * te.size))
    | .rp g j off => ti.kind = 2 ∧ 0 ≤ n ∧ n < ti.alen ∧ ∃ te, T ti.elem = some te ∧ K (.rp g j (off + n.toNat * te.size))
    | .ro cs => ti.kind = 2 ∧ 0 ≤ n ∧ n < ti.alen ∧ ∃ te, T ti.elem = some te ∧ K (.ro (cs.drop (n.toNat * te.size)))
    | .val (.pointer (some ⟨g, off, none⟩)) => ti.kind = 2 ∧ 0 ≤ n ∧ n < ti.alen ∧ ∃ te, T ti.elem = some te ∧ K (.val (.pointer (some ⟨g, off + n.toNat * te.size, none⟩)))
    | _ => False
  | _, _ => False

/-- A byte of a string. -/
def strA (T : TT) (t : TypeId) (x i : AV) (K : AV → Prop) : Prop :=
  match T t, x, i with
  | some ti, .val (.string s), .val (.int _ n) => ti.kind = 4 ∧ 0 ≤ n ∧ n < s.size ∧ ∀ b, s.data.toList[n.toNat]? = some b → b.toNat < 256 → K (.val (.int .u8 b.toNat))
  | _, _, _ => False
def isAggA : AV → Bool
  | .agg _ => true
  | _ => false
/-- A type assertion to a struct. -/
def assertA (T : TT) (s : TypeId) (ok : Bool) (x : AV) (K : AV → Prop) : Prop :=
  match T s with
  | none => False
  | some ti => ti.kind = 3 ∧ ti.agg = true ∧ match x with
    | .iface t y => if t = s then isAggA y = true ∧ (match ok with
        | true => K (.tup [y, B true])
        | false => K y)
      else ok = true ∧ K (.tup [.agg (ti.zero.map .val), B false])
    | .val .nilIface => ok = true ∧ K (.tup [.agg (ti.zero.map .val), B false])
    | _ => False

/-- The pieces that stay with their value. -/
def valA (T : TT) (H : Nat → AO) (F : List Fam) (op : Op) (args : List AV) (K : AV → Prop) : Prop :=
  match op, args with
  | .move _, [x] => K x
  | .assign _, [x] => K x
  | .pick _ _ _, [.val (.bool c), x, y] => brK c (K x) (K y)
  | .binOp b t _ oy _, [x, y] => binC T b t (isConst oy) x y K
  | .index t _ _, [x, i] => strA T t x i K
  | .makeInterface t _, [x] => match T t with
    | some ti => ti.kind = 3 ∧ pureA x = true ∧ K (.iface t x)
    | none => False
  | .typeAssert _ _ s ok, [x] => assertA T s ok x K
  | .unOp u _ _, [x] => unA u x K
  | .convert src dst _, [x] => convB T H src dst x K
  | .nilCheck _, [x] => match x with
    | .ptr _ _ | .el _ _ _ | .ro _ | .rp _ _ _ => K x
    | _ => False
  | .fieldAddr t _ f, [x] => fieldAddrA T t x f K
  | .load t _, [x] => loadA T H F t x K
  | .indexAddr t _ _, [x, i] => indexA T H t x i K
  | .extract _ i, [.tup cs] => match cs[i]? with
    | some c => K c
    | none => False
  | _, _ => False
end Go.Vc
