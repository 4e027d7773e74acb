/-
The abstract values and objects of the condition generator, what it means that a value of the model is described by one of them, and how such a description is carried from one world to the next.
What it means that the slots and the world of a running call are described by an abstract state, and the steps that keep it.
The abstract operations of the condition generator: what each operation of the translation asks, and what it leaves.
No conditions.
-/
import Derived.WalkKit
namespace Go.Vc

/-- What is known of a value. -/
inductive AV where
  | any
  | val (v : Value)
  | agg (cs : List AV)
  | tup (cs : List AV)
  | ints (l : List Int)
  | bytes (l : List UInt8)
  | sl (sz : Nat) (l : List (List AV))
  | zsl (sz : Nat) (l : List (List AV))
  | ro (cs : List AV)
  | ptr (k off : Nat)
  | el (k i off : Nat)
  | own (k : Nat)
  | sub (k lo hi : Nat)
  | win (k off n : Nat)
  | clo (f k : Nat)
  | rp (f i off : Nat)
  | iface (t : TypeId) (x : AV)
  | ifp (t : TypeId) (k off : Nat)
  deriving Inhabited

/-- What is known of a block that the running call owns. -/
inductive AO where
  | dead
  | cells (cs : List AV)
  | iarr (l : List Int)
  | arr (sz : Nat) (l : List (List AV))
  deriving Inhabited

abbrev I (n : Int) : AV := .val (.int .i64 n)
abbrev B (b : Bool) : AV := .val (.bool b)
def icells (l : List Int) : List (List AV) := l.map fun n => [.val (.int .i64 n)]

/-- No reference to an owned block: a cell's value. -/
def pureB : AV → Bool
  | .any | .val _ | .ints _ | .bytes _ | .sl _ _ | .zsl _ _ | .ro _ | .rp _ _ _ | .iface _ _ => true
  | _ => false
/-- Nothing that is only read but the arguments' own memory. -/
def zB : AV → Bool
  | .any | .val _ | .bytes _ | .zsl _ _ => true
  | _ => false
theorem pureB_of_zB {a : AV} (h : zB a = true) : pureB a = true := by cases a <;> simp_all [zB, pureB]
/-- The same for a whole value. -/
def pureA : AV → Bool
  | .agg cs => cs.all pureB
  | a => pureB a

/-- Size of an element and number of elements. -/
def AO.info : AO → Option (Nat × Nat)
  | .iarr l => some (1, l.length)
  | .arr sz l => some (sz, l.length)
  | _ => none

/-- Where the objects of the families lie. -/
structure FA where
  at_ : Nat → Nat → Nat
  n : Nat

structure Ctx where
  w : World
  ok : Nat → Prop
  Z : Nat → Prop
  ρ : Nat → Nat
  A : FA
  H : Nat → AO

/-- The block of object k has room for 'n' cells. -/
def Ctx.room (c : Ctx) (k n : Nat) : Prop := ∃ vs T fr, c.w.heap[c.ρ k]? = some (.cells vs T fr) ∧ n ≤ vs.size

inductive RepV (c : Ctx) : AV → Value → Prop
  | any (v : Value) : RepV c .any v
  | val (v : Value) : RepV c (.val v) v
  | agg (cs : List AV) (vs : List Value) (hl : vs.length = cs.length) (h1 : ∀ v ∈ vs, v.oneCell' = true)
      (h : ∀ (i : Nat) a v, cs[i]? = some a → vs[i]? = some v → RepV c a v) : RepV c (.agg cs) (.agg vs.toArray)
  | tup (cs : List AV) (vs : List Value) (hl : vs.length = cs.length) (hn : ∀ v ∈ vs, ∀ us, v ≠ .tuple us)
      (h : ∀ (i : Nat) a v, cs[i]? = some a → vs[i]? = some v → RepV c a v) : RepV c (.tup cs) (.tuple vs.toArray)
  | sl0 (sz : Nat) (a : Option Addr) (cap : Nat) : RepV c (.sl sz []) (.slice a 0 cap)
  | sl (sz : Nat) (l : List (List AV)) (b off cap : Nat) (vf : Nat → Nat → Value) (hok : c.ok b) (hcap : l.length ≤ cap)
      (hl : ∀ (i : Nat) e, l[i]? = some e → e.length = sz)
      (hc : ∀ (i : Nat) e (j : Nat) a, l[i]? = some e → e[j]? = some a → c.w.cell? ⟨b, off + i * sz + j, none⟩ = some (vf i j) ∧ pureB a = true ∧ (vf i j).oneCell' = true)
      (h : ∀ (i : Nat) e (j : Nat) a, l[i]? = some e → e[j]? = some a → RepV c a (vf i j)) : RepV c (.sl sz l) (.slice (some ⟨b, off, none⟩) l.length cap)
  | zsl0 (sz : Nat) (a : Option Addr) (cap : Nat) : RepV c (.zsl sz []) (.slice a 0 cap)
  | zsl (sz : Nat) (l : List (List AV)) (b off cap : Nat) (vf : Nat → Nat → Value) (hz : c.Z b) (hcap : l.length ≤ cap)
      (hl : ∀ (i : Nat) e, l[i]? = some e → e.length = sz)
      (hc : ∀ (i : Nat) e (j : Nat) a, l[i]? = some e → e[j]? = some a → c.w.cell? ⟨b, off + i * sz + j, none⟩ = some (vf i j) ∧ zB a = true ∧ (vf i j).oneCell' = true)
      (h : ∀ (i : Nat) e (j : Nat) a, l[i]? = some e → e[j]? = some a → RepV c a (vf i j)) : RepV c (.zsl sz l) (.slice (some ⟨b, off, none⟩) l.length cap)
  | ints (l : List Int) (v : Value) (h : RepV c (.sl 1 (icells l)) v) : RepV c (.ints l) v
  | bytes0 (a : Option Addr) (cap : Nat) : RepV c (.bytes []) (.slice a 0 cap)
  | bytes (l : List UInt8) (b off cap : Nat) (hz : c.Z b) (hcap : l.length ≤ cap)
      (hc : ∀ (i : Nat) x, l[i]? = some x → c.w.cell? ⟨b, off + i, none⟩ = some (.int .u8 x.toNat)) : RepV c (.bytes l) (.slice (some ⟨b, off, none⟩) l.length cap)
  | ro (cs : List AV) (b off : Nat) (vf : Nat → Value) (hok : c.ok b ∨ c.Z b)
      (hc : ∀ (j : Nat) a, cs[j]? = some a → c.w.cell? ⟨b, off + j, none⟩ = some (vf j) ∧ pureB a = true ∧ (vf j).oneCell' = true)
      (h : ∀ (j : Nat) a, cs[j]? = some a → RepV c a (vf j)) : RepV c (.ro cs) (.pointer (some ⟨b, off, none⟩))
  | ptr (k off : Nat) (cs : List AV) (hk : c.H k = .cells cs) : RepV c (.ptr k off) (.pointer (some ⟨c.ρ k, off, none⟩))
  | el (k i off sz n : Nat) (hk : (c.H k).info = some (sz, n)) (hi : i < n) : RepV c (.el k i off) (.pointer (some ⟨c.ρ k, i * sz + off, none⟩))
  | own (k sz n cap : Nat) (hk : (c.H k).info = some (sz, n)) (hcap : n ≤ cap ∧ cap ≤ 9223372036854775807) (hr : c.room k (cap * sz)) : RepV c (.own k) (.slice (some ⟨c.ρ k, 0, none⟩) n cap)
  | sub (k sz n lo hi o cap : Nat) (hk : (c.H k).info = some (sz, n)) (h1 : lo ≤ hi) (h2 : hi ≤ n) (hcap : hi - lo ≤ cap ∧ cap ≤ 9223372036854775807) (hr : c.room k ((lo + cap) * sz))
      (ho : o = lo * sz ∨ (cap = 0 ∧ hi = lo ∧ 0 < lo)) : RepV c (.sub k lo hi) (.slice (some ⟨c.ρ k, o, none⟩) (hi - lo) cap)
  | win (k off n cap : Nat) (cs : List AV) (hk : c.H k = .cells cs) (hcap : n ≤ cap) (hr : c.room k (off + cap)) : RepV c (.win k off n) (.slice (some ⟨c.ρ k, off, none⟩) n cap)
  | clo (f k : Nat) (cs : List AV) (hk : c.H k = .cells cs) : RepV c (.clo f k) (.func (.func f) #[] #[.pointer (some ⟨c.ρ k, 0, none⟩)])
  | ifp (t : TypeId) (k off : Nat) (cs : List AV) (hk : c.H k = .cells cs) : RepV c (.ifp t k off) (.iface t (.pointer (some ⟨c.ρ k, off, none⟩)))
  | rp (f i off : Nat) (hf : f < c.A.n) : RepV c (.rp f i off) (.pointer (some ⟨c.A.at_ f i, off, none⟩))
  | iface (t : TypeId) (x : AV) (v : Value) (hp : pureA x = true) (h : RepV c x v) : RepV c (.iface t x) (.iface t v)

/-- What is known of object k stands in its block. -/
def RepO (c : Ctx) (k : Nat) : AO → Prop
  | .dead => True
  | .cells cs => ∃ vs T, c.w.heap[c.ρ k]? = some (.cells vs T (0, 0)) ∧ vs.size = cs.length ∧ (∀ v ∈ vs.toList, v.oneCell' = true) ∧ ∀ (j : Nat) a v, cs[j]? = some a → vs[j]? = some v → RepV c a v
  | .iarr l => ∃ vs T, c.w.heap[c.ρ k]? = some (.cells vs T (0, 0)) ∧ l.length * 1 ≤ vs.size ∧ (∀ v ∈ vs.toList, v.oneCell' = true) ∧
      ∀ (i : Nat) e (j : Nat) a v, (icells l)[i]? = some e → e[j]? = some a → vs[i * 1 + j]? = some v → RepV c a v ∧ pureB a = true
  | .arr sz l => ∃ vs T, c.w.heap[c.ρ k]? = some (.cells vs T (0, 0)) ∧ l.length * sz ≤ vs.size ∧ (∀ v ∈ vs.toList, v.oneCell' = true) ∧ (∀ (i : Nat) e, l[i]? = some e → e.length = sz) ∧
      ∀ (i : Nat) e (j : Nat) a v, l[i]? = some e → e[j]? = some a → vs[i * sz + j]? = some v → RepV c a v ∧ pureB a = true

/-- A reference into an owned block. -/
def isRef : AV → Bool
  | .ptr _ _ | .el _ _ _ | .own _ | .sub _ _ _ | .win _ _ _ | .clo _ _ | .ifp _ _ _ => true
  | _ => false
/-- Every reference of a value turned by f. -/
def mapC (f : AV → AV) (a : AV) : AV := if isRef a then f a else a
def mapA (f : AV → AV) : AV → AV
  | .agg cs => .agg (cs.map (mapC f))
  | a => mapC f a
def mapR (f : AV → AV) : AV → AV
  | .tup cs => .tup (cs.map (mapA f))
  | a => mapA f a
/-- The object that a reference is to. -/
def refOf : AV → Option Nat
  | .ptr k _ | .el k _ _ | .own k | .sub k _ _ | .win k _ _ | .clo _ k | .ifp _ k _ => some k
  | _ => none

/-- What was readable in c reads the same in c'. -/
structure Keeps (c c' : Ctx) : Prop where
  ok : ∀ b, c.ok b → c'.ok b
  okw : ∀ b, c.ok b → c'.w.heap[b]? = c.w.heap[b]?
  Z : ∀ b, c.Z b → c'.Z b
  Zw : ∀ b, c.Z b → c'.w.heap[b]? = c.w.heap[b]?
  A : c.A.n ≤ c'.A.n ∧ ∀ f, f < c.A.n → c'.A.at_ f = c.A.at_ f

theorem pureA_of_pureB {a : AV} (h : pureB a = true) : pureA a = true := by cases a <;> simp_all [pureA, pureB]

theorem RepV.pure_move {c c' : Ctx} (hk : Keeps c c') {a : AV} {v : Value} (h : RepV c a v) : pureA a = true → RepV c' a v := by
  induction h with
  | any v => exact fun _ => .any v
  | val v => exact fun _ => .val v
  | agg cs vs hl h1 h ih =>
    intro hp
    refine .agg cs vs hl h1 fun i a v ha hv => ih i a v ha hv (pureA_of_pureB ?_)
    simp only [pureA, List.all_eq_true] at hp
    exact hp a (List.mem_of_getElem? ha)
  | tup cs vs hl hn h ih => intro hp; simp [pureA, pureB] at hp
  | sl0 sz a cap => exact fun _ => .sl0 sz a cap
  | sl sz l b off cap vf hok hcap hl hc h ih =>
    intro _
    refine .sl sz l b off cap vf (hk.ok b hok) hcap hl (fun i e j a hi hj => ?_) (fun i e j a hi hj => ih i e j a hi hj (pureA_of_pureB (hc i e j a hi hj).2.1))
    have := hc i e j a hi hj
    refine ⟨?_, this.2⟩
    rw [← this.1]
    exact World.cell?_of_block (hk.okw b hok)
  | zsl0 sz a cap => exact fun _ => .zsl0 sz a cap
  | zsl sz l b off cap vf hz hcap hl hc h ih =>
    intro _
    refine .zsl sz l b off cap vf (hk.Z b hz) hcap hl (fun i e j a hi hj => ?_) (fun i e j a hi hj => ih i e j a hi hj (pureA_of_pureB (pureB_of_zB (hc i e j a hi hj).2.1)))
    have := hc i e j a hi hj
    refine ⟨?_, this.2⟩
    rw [← this.1]
    exact World.cell?_of_block (hk.Zw b hz)
  | ints l v h ih => exact fun _ => .ints l v (ih rfl)
  | bytes0 a cap => exact fun _ => .bytes0 a cap
  | bytes l b off cap hz hcap hc =>
    intro _
    refine .bytes l b off cap (hk.Z b hz) hcap fun i x hi => ?_
    rw [← hc i x hi]
    exact World.cell?_of_block (hk.Zw b hz)
  | ro cs b off vf hok hc h ih =>
    intro _
    refine .ro cs b off vf (hok.imp (hk.ok b) (hk.Z b)) (fun j a hj => ?_) (fun j a hj => ih j a hj (pureA_of_pureB (hc j a hj).2.1))
    have := hc j a hj
    refine ⟨?_, this.2⟩
    rw [← this.1]
    exact World.cell?_of_block (hok.elim (hk.okw b) (hk.Zw b))
  | ptr k off cs hk => intro hp; simp [pureA, pureB] at hp
  | el k i off sz n hk hi => intro hp; simp [pureA, pureB] at hp
  | own k sz n cap hk hcap hr => intro hp; simp [pureA, pureB] at hp
  | sub k sz n lo hi o cap hk h1 h2 hcap hr ho => intro hp; simp [pureA, pureB] at hp
  | win k off n cap cs hk hcap hr => intro hp; simp [pureA, pureB] at hp
  | clo f k cs hk => intro hp; simp [pureA, pureB] at hp
  | ifp t k off cs hk => intro hp; simp [pureA, pureB] at hp
  | rp f i off hf => intro _; rw [← hk.A.2 f hf]; exact .rp f i off (Nat.lt_of_lt_of_le hf hk.A.1)
  | iface t x v hp h ih => exact fun _ => .iface t x v hp (ih hp)

theorem RepV.z_move {c c' : Ctx} (hZ : ∀ b, c.Z b → c'.Z b ∧ c'.w.heap[b]? = c.w.heap[b]?) {a : AV} {v : Value} (h : RepV c a v) : zB a = true → RepV c' a v := by
  induction h with
  | any v => exact fun _ => .any v
  | val v => exact fun _ => .val v
  | zsl0 sz a cap => exact fun _ => .zsl0 sz a cap
  | zsl sz l b off cap vf hz hcap hl hc h ih =>
    intro _
    refine .zsl sz l b off cap vf (hZ b hz).1 hcap hl (fun i e j a hi hj => ?_) (fun i e j a hi hj => ih i e j a hi hj (hc i e j a hi hj).2.1)
    have := hc i e j a hi hj
    refine ⟨?_, this.2⟩
    rw [← this.1]
    exact World.cell?_of_block (hZ b hz).2
  | bytes0 a cap => exact fun _ => .bytes0 a cap
  | bytes l b off cap hz hcap hc =>
    intro _
    refine .bytes l b off cap (hZ b hz).1 hcap fun i x hi => ?_
    rw [← hc i x hi]
    exact World.cell?_of_block (hZ b hz).2
  | _ => intro h; simp [zB] at h
theorem RepV.not_agg {c : Ctx} {cs : List AV} {v : Value} (h : RepV c (.agg cs) v) (h1 : v.oneCell' = true) : False := by cases h; simp [Value.oneCell'] at h1
theorem RepV.not_tup {c : Ctx} {cs : List AV} {v : Value} (h : RepV c (.tup cs) v) (h1 : ∀ us, v ≠ .tuple us) : False := by cases h; exact h1 _ rfl
theorem oneCell_not_tuple {v : Value} (h1 : v.oneCell' = true) : ∀ us, v ≠ .tuple us := by rintro us rfl; simp [Value.oneCell'] at h1
theorem mapC_move {c c' : Ctx} (hk : Keeps c c') (f : AV → AV) (hf : ∀ r v, isRef r = true → RepV c r v → RepV c' (f r) v) {a : AV} {v : Value} (h1 : v.oneCell' = true) (h : RepV c a v) : RepV c' (mapC f a) v := by
  unfold mapC
  split
  · exact hf _ _ ‹_› h
  · cases a with
    | agg cs => exact (h.not_agg h1).elim
    | tup cs => exact (h.not_tup (oneCell_not_tuple h1)).elim
    | _ => first | exact h.pure_move hk rfl | (rename_i hr; exact absurd rfl hr)
theorem mapA_move {c c' : Ctx} (hk : Keeps c c') (f : AV → AV) (hf : ∀ r v, isRef r = true → RepV c r v → RepV c' (f r) v) {a : AV} {v : Value} (hn : ∀ us, v ≠ .tuple us) (h : RepV c a v) : RepV c' (mapA f a) v := by
  cases a with
  | agg cs =>
    cases h with
    | agg cs vs hl h1 h =>
      refine .agg _ vs (by simpa using hl) h1 fun i a v ha hv => ?_
      rw [List.getElem?_map] at ha
      obtain ⟨a0, ha0, rfl⟩ := Option.map_eq_some_iff.1 ha
      exact mapC_move hk f hf (h1 v (List.mem_of_getElem? hv)) (h i a0 v ha0 hv)
  | tup cs => exact (h.not_tup hn).elim
  | _ => first | exact h.pure_move hk rfl | exact hf _ _ rfl h
/-- The whole carrying: what is no reference stays, a reference is turned by f. -/
theorem RepV.move {c c' : Ctx} (hk : Keeps c c') (f : AV → AV) (hf : ∀ r v, isRef r = true → RepV c r v → RepV c' (f r) v) {a : AV} {v : Value} (h : RepV c a v) : RepV c' (mapR f a) v := by
  cases a with
  | tup cs =>
    cases h with
    | tup cs vs hl hn h =>
      refine .tup _ vs (by simpa using hl) hn fun i a v ha hv => ?_
      rw [List.getElem?_map] at ha
      obtain ⟨a0, ha0, rfl⟩ := Option.map_eq_some_iff.1 ha
      exact mapA_move hk f hf (hn v (List.mem_of_getElem? hv)) (h i a0 v ha0 hv)
  | agg cs => exact mapA_move hk f hf (by cases h; intro us e; cases e) h
  | _ => first | exact h.pure_move hk rfl | exact hf _ _ rfl h

theorem mapC_id {f : AV → AV} (hf : ∀ r, f r = r) (a : AV) : mapC f a = a := by unfold mapC; split <;> simp [hf]
theorem mapA_id {f : AV → AV} (hf : ∀ r, f r = r) (a : AV) : mapA f a = a := by
  cases a with
  | agg cs =>
    have : mapC f = id := funext (mapC_id hf)
    simp [mapA, this]
  | _ => simp [mapA, mapC_id hf]
theorem mapR_id {f : AV → AV} (hf : ∀ r, f r = r) (a : AV) : mapR f a = a := by
  cases a with
  | tup cs =>
    have : mapA f = id := funext (mapA_id hf)
    simp [mapR, this]
  | _ => simp [mapR, mapA_id hf]

/-- Nothing is turned: every reference reads as it did. -/
theorem RepV.stay {c c' : Ctx} (hk : Keeps c c') (hf : ∀ r v, isRef r = true → RepV c r v → RepV c' r v) {a : AV} {v : Value} (h : RepV c a v) : RepV c' a v := by
  induction h with
  | any v => exact .any v
  | val v => exact .val v
  | agg cs vs hl h1 h ih => exact .agg cs vs hl h1 ih
  | tup cs vs hl hn h ih => exact .tup cs vs hl hn ih
  | sl0 sz a cap => exact .sl0 sz a cap
  | sl sz l b off cap vf hok hcap hl hc h ih => exact (RepV.sl sz l b off cap vf hok hcap hl hc h).pure_move hk rfl
  | zsl0 sz a cap => exact .zsl0 sz a cap
  | zsl sz l b off cap vf hz hcap hl hc h ih => exact (RepV.zsl sz l b off cap vf hz hcap hl hc h).pure_move hk rfl
  | ints l v h ih => exact .ints l v ih
  | bytes0 a cap => exact .bytes0 a cap
  | bytes l b off cap hz hcap hc => exact (RepV.bytes l b off cap hz hcap hc).pure_move hk rfl
  | ro cs b off vf hok hc h ih => exact (RepV.ro cs b off vf hok hc h).pure_move hk rfl
  | ptr k off cs h => exact hf _ _ rfl (.ptr k off cs h)
  | el k i off sz n hk hi => exact hf _ _ rfl (.el k i off sz n hk hi)
  | own k sz n cap hk hcap hr => exact hf _ _ rfl (.own k sz n cap hk hcap hr)
  | sub k sz n lo hi o cap hk h1 h2 hcap hr ho => exact hf _ _ rfl (.sub k sz n lo hi o cap hk h1 h2 hcap hr ho)
  | win k off n cap cs hk hcap hr => exact hf _ _ rfl (.win k off n cap cs hk hcap hr)
  | clo f k cs hk => exact hf _ _ rfl (.clo f k cs hk)
  | ifp t k off cs hk => exact hf _ _ rfl (.ifp t k off cs hk)
  | rp f i off hf => exact (RepV.rp f i off hf).pure_move hk rfl
  | iface t x v hp h ih => exact .iface t x v hp ih

/-- A row of cells described one by one. -/
def RepL (c : Ctx) (cs : List AV) (vs : List Value) : Prop :=
  vs.length = cs.length ∧ (∀ v ∈ vs, v.oneCell' = true) ∧ ∀ (i : Nat) a v, cs[i]? = some a → vs[i]? = some v → RepV c a v

/-- The cells of a value that can be stored. -/
def cellsOf : AV → Option (List AV)
  | .agg cs => some cs
  | .any | .tup _ => none
  | .val v => if v.oneCell' then some [.val v] else none
  | a => some [a]

theorem RepL.one {c : Ctx} {a : AV} {v : Value} (h : RepV c a v) (h1 : v.oneCell' = true) : RepL c [a] [v] := by
  refine ⟨rfl, by simpa using h1, fun i x y hx hy => ?_⟩
  cases i with
  | zero => simp at hx hy; subst hx hy; exact h
  | succ i => simp at hx

theorem cellsOf_rep {c : Ctx} {a : AV} {cs : List AV} {v : Value} (hc : cellsOf a = some cs) (h : RepV c a v) : RepL c cs v.cells.toList := by
  have key : ∀ {a : AV} {v : Value}, RepV c a v → v.oneCell' = true → cs = [a] → RepL c cs v.cells.toList := by
    intro a v h h1 e
    subst e
    have : v.cells = #[v] := by cases v <;> simp_all [Value.oneCell', Value.cells]
    rw [this]
    exact .one h h1
  cases h with
  | any v => simp [cellsOf] at hc
  | val v =>
    simp only [cellsOf] at hc
    split at hc
    · rename_i h1
      exact key (.val v) h1 (by simpa using hc.symm)
    · cases hc
  | agg cs' vs hl h1 h =>
    simp only [cellsOf, Option.some.injEq] at hc
    subst hc
    exact ⟨hl, h1, h⟩
  | tup cs vs hl hn h => simp [cellsOf] at hc
  | sl0 sz a cap => exact key (.sl0 sz a cap) rfl (by simpa [cellsOf] using hc.symm)
  | sl sz l b off cap vf hok hcap hl hc' h => exact key (.sl sz l b off cap vf hok hcap hl hc' h) rfl (by simpa [cellsOf] using hc.symm)
  | zsl0 sz a cap => exact key (.zsl0 sz a cap) rfl (by simpa [cellsOf] using hc.symm)
  | zsl sz l b off cap vf hz hcap hl hc' h => exact key (.zsl sz l b off cap vf hz hcap hl hc' h) rfl (by simpa [cellsOf] using hc.symm)
  | ints l v h =>
    refine key (.ints l v h) ?_ (by simpa [cellsOf] using hc.symm)
    revert h
    generalize icells l = x
    intro h
    cases h <;> rfl
  | bytes0 a cap => exact key (.bytes0 a cap) rfl (by simpa [cellsOf] using hc.symm)
  | bytes l b off cap hz hcap hc' => exact key (.bytes l b off cap hz hcap hc') rfl (by simpa [cellsOf] using hc.symm)
  | ro cs' b off vf hok hc' h => exact key (.ro cs' b off vf hok hc' h) rfl (by simpa [cellsOf] using hc.symm)
  | ptr k off cs' hk => exact key (.ptr k off cs' hk) rfl (by simpa [cellsOf] using hc.symm)
  | el k i off sz n hk hi => exact key (.el k i off sz n hk hi) rfl (by simpa [cellsOf] using hc.symm)
  | own k sz n cap hk hcap hr => exact key (.own k sz n cap hk hcap hr) rfl (by simpa [cellsOf] using hc.symm)
  | sub k sz n lo hi o cap hk h1 h2 hcap hr ho => exact key (.sub k sz n lo hi o cap hk h1 h2 hcap hr ho) rfl (by simpa [cellsOf] using hc.symm)
  | win k off n cap cs' hk hcap hr => exact key (.win k off n cap cs' hk hcap hr) rfl (by simpa [cellsOf] using hc.symm)
  | clo f k cs' hk => exact key (.clo f k cs' hk) rfl (by simpa [cellsOf] using hc.symm)
  | ifp t k off cs' hk => exact key (.ifp t k off cs' hk) rfl (by simpa [cellsOf] using hc.symm)
  | rp f i off hf => exact key (.rp f i off hf) rfl (by simpa [cellsOf] using hc.symm)
  | iface t x v hp h => exact key (.iface t x v hp h) rfl (by simpa [cellsOf] using hc.symm)

theorem RepL.agg {c : Ctx} {cs : List AV} {vs : List Value} (h : RepL c cs vs) : RepV c (.agg cs) (.agg vs.toArray) := .agg cs vs h.1 h.2.1 h.2.2
theorem RepL.get {c : Ctx} {cs : List AV} {vs : List Value} (h : RepL c cs vs) {i : Nat} {a : AV} (hi : cs[i]? = some a) : ∃ v, vs[i]? = some v ∧ v.oneCell' = true ∧ RepV c a v := by
  have hlt : i < cs.length := (List.getElem?_eq_some_iff.1 hi).1
  have hl : i < vs.length := by rw [h.1]; exact hlt
  exact ⟨vs[i], List.getElem?_eq_getElem hl, h.2.1 _ (List.getElem_mem hl), h.2.2 i a _ hi (List.getElem?_eq_getElem hl)⟩
theorem RepL.nil {c : Ctx} : RepL c [] [] := ⟨rfl, by simp, by simp⟩
theorem RepL.append {c : Ctx} {cs ds : List AV} {vs us : List Value} (h : RepL c cs vs) (k : RepL c ds us) : RepL c (cs ++ ds) (vs ++ us) := by
  refine ⟨by simp [h.1, k.1], fun v hv => ?_, fun i a v ha hv => ?_⟩
  · rcases List.mem_append.1 hv with hv | hv
    · exact h.2.1 v hv
    · exact k.2.1 v hv
  · by_cases hi : i < cs.length
    · rw [List.getElem?_append_left hi] at ha
      rw [List.getElem?_append_left (by rw [h.1]; exact hi)] at hv
      exact h.2.2 i a v ha hv
    · rw [List.getElem?_append_right (by omega)] at ha
      rw [List.getElem?_append_right (by rw [h.1]; omega), h.1] at hv
      exact k.2.2 _ a v ha hv
theorem RepL.take {c : Ctx} {cs : List AV} {vs : List Value} (h : RepL c cs vs) (n : Nat) : RepL c (cs.take n) (vs.take n) := by
  refine ⟨by simp [h.1], fun v hv => h.2.1 v (List.mem_of_mem_take hv), fun i a v ha hv => ?_⟩
  rw [List.getElem?_take] at ha hv
  split at ha
  · rename_i hi; rw [if_pos hi] at hv; exact h.2.2 i a v ha hv
  · cases ha
theorem RepL.drop {c : Ctx} {cs : List AV} {vs : List Value} (h : RepL c cs vs) (n : Nat) : RepL c (cs.drop n) (vs.drop n) := by
  refine ⟨by simp [h.1], fun v hv => h.2.1 v (List.mem_of_mem_drop hv), fun i a v ha hv => ?_⟩
  rw [List.getElem?_drop] at ha hv
  exact h.2.2 _ a v ha hv
theorem RepL.mono {c c' : Ctx} {cs : List AV} {vs : List Value} (h : RepL c cs vs) (hm : ∀ a v, a ∈ cs → RepV c a v → RepV c' a v) : RepL c' cs vs :=
  ⟨h.1, h.2.1, fun i a v ha hv => hm a v (List.mem_of_getElem? ha) (h.2.2 i a v ha hv)⟩
theorem repO_cells {c : Ctx} {k : Nat} {cs : List AV} : RepO c k (.cells cs) ↔ ∃ vs T, c.w.heap[c.ρ k]? = some (.cells vs T (0, 0)) ∧ RepL c cs vs.toList := by
  constructor
  · rintro ⟨vs, T, h1, h2, h3, h4⟩
    exact ⟨vs, T, h1, by simpa using h2, h3, fun i a v ha hv => h4 i a v ha (by simpa using hv)⟩
  · rintro ⟨vs, T, h1, h2, h3, h4⟩
    exact ⟨vs, T, h1, by simpa using h2, h3, fun i a v ha hv => h4 i a v ha (by simpa using hv)⟩
end Go.Vc
namespace Go.Vc

/-- A row of objects that are only read; 'pin': the first one is this global variable. -/
structure Fam where
  pin : Option Nat
  objs : List (List AV)

structure FS where
  env : Nat → AV
  H : Nat → AO
  F : List Fam

structure Entry where
  w0 : World
  ok0 : Nat → Prop
  Z : Nat → Prop
  n0 : Nat
  ρ0 : Nat → Nat
  c0 : Nat → Prop
  A0 : FA
  fx : Bool := false
  pins : List (Nat × Obj) := []

abbrev alive (H : Nat → AO) (k : Nat) : Prop := H k ≠ .dead

/-- No cell of the block is barred from being written. -/
def unfr (w : World) (b : Nat) : Prop := ∀ vs T fr, w.heap[b]? = some (.cells vs T fr) → fr = (0, 0)
theorem unfr.same {w w' : World} {b : Nat} (h : unfr w b) (e : w'.heap[b]? = w.heap[b]?) : unfr w' b := fun vs T fr hb => h vs T fr (e ▸ hb)
theorem unfr.of {w : World} {b : Nat} {vs : Array Value} {T : TypeId} (h : w.heap[b]? = some (.cells vs T (0, 0))) : unfr w b := fun vs' T' fr hb => by rw [h] at hb; cases hb; rfl
theorem unfr.obj {w : World} {b : Nat} {o : Obj} (h : w.heap[b]? = some o) (ho : ∀ vs T fr, o ≠ .cells vs T fr) : unfr w b := fun vs T fr hb => by rw [h] at hb; cases hb; exact absurd rfl (ho _ _ _)
def okOf (E : Entry) (H : Nat → AO) (w : World) (ρ : Nat → Nat) (b : Nat) : Prop := E.ok0 b ∨ (E.w0.heap.size ≤ b ∧ b < w.heap.size ∧ (∀ k, alive H k → ρ k ≠ b) ∧ unfr w b)

abbrev ctxOf (E : Entry) (H : Nat → AO) (w : World) (ρ : Nat → Nat) (A : FA) : Ctx := ⟨w, okOf E H w ρ, E.Z, ρ, A, H⟩

def RepFam (c : Ctx) (f : Nat) (F : Fam) : Prop :=
  (∀ (i : Nat) cs, F.objs[i]? = some cs → (c.ok (c.A.at_ f i) ∨ c.Z (c.A.at_ f i)) ∧ ∃ vf : Nat → Value, ∀ (j : Nat) a, cs[j]? = some a → c.w.cell? ⟨c.A.at_ f i, j, none⟩ = some (vf j) ∧ pureB a = true ∧ (vf j).oneCell' = true ∧ RepV c a (vf j)) ∧
  (∀ i j, i < F.objs.length → j < F.objs.length → c.A.at_ f i = c.A.at_ f j → i = j) ∧
  (∀ g, F.pin = some g → c.A.at_ f 0 = g ∧ ∀ cs, F.objs[0]? = some cs → ∃ vs T fr, c.w.heap[g]? = some (.cells vs T fr) ∧ vs.size = cs.length) ∧
  (F.pin = none → ∀ (i : Nat) cs, F.objs[i]? = some cs → ∃ vs T, c.w.heap[c.A.at_ f i]? = some (.cells vs T (0, 0)))
/-- The cells of object i of family f. -/
def famAt (F : List Fam) (f i : Nat) (cs : List AV) : Prop := ∃ fam, F[f]? = some fam ∧ fam.objs[i]? = some cs
/-- The same, no global variable. -/
def famOwn (F : List Fam) (f i : Nat) (cs : List AV) : Prop := ∃ fam, F[f]? = some fam ∧ fam.pin = none ∧ fam.objs[i]? = some cs
def pinOf : List Fam → Nat → Option (List AV)
  | [], _ => none
  | ⟨none, _⟩ :: r, g => pinOf r g
  | ⟨some p, o⟩ :: r, g => if p = g then (match o with
    | [] => none
    | cs :: _ => some cs) else pinOf r g
theorem pinOf_out : ∀ {F : List Fam} {g : Nat} {cs : List AV}, pinOf F g = some cs → ∃ (f : Nat) (fam : Fam), F[f]? = some fam ∧ fam.pin = some g ∧ fam.objs[0]? = some cs
  | [], _, _, h => by cases h
  | ⟨none, o⟩ :: r, g, cs, h => by
    obtain ⟨f, fam, h1, h2⟩ := pinOf_out (F := r) h
    exact ⟨f + 1, fam, by simpa using h1, h2⟩
  | ⟨some p, o⟩ :: r, g, cs, h => by
    unfold pinOf at h
    split at h
    · rename_i e
      subst e
      cases o with
      | nil => cases h
      | cons x t => cases h; exact ⟨0, _, rfl, rfl, rfl⟩
    · obtain ⟨f, fam, h1, h2⟩ := pinOf_out (F := r) h
      exact ⟨f + 1, fam, by simpa using h1, h2⟩

/-- The part that does not speak of the slots. -/
structure SatW (E : Entry) (H : Nat → AO) (F : List Fam) (w : World) (ρ : Nat → Nat) (A : FA) : Prop where
  os : w.os = E.w0.os
  tape : w.tape = E.w0.tape
  output : w.output = E.w0.output
  size : E.w0.heap.size ≤ w.heap.size
  frame : ∀ b, b < E.w0.heap.size → (∀ i, i < E.n0 → b ≠ E.ρ0 i) → w.heap[b]? = E.w0.heap[b]?
  okB : ∀ b, E.ok0 b → b < E.w0.heap.size ∧ ∀ i, i < E.n0 → b ≠ E.ρ0 i
  zB : ∀ b, E.Z b → b < E.w0.heap.size ∧ ∀ i, i < E.n0 → b ≠ E.ρ0 i
  place : ∀ k, alive H k → ρ k < w.heap.size ∧ (E.w0.heap.size ≤ ρ k ∨ (k < E.n0 ∧ ρ k = E.ρ0 k))
  inj : ∀ k k', alive H k → alive H k' → ρ k = ρ k' → k = k'
  stay : ∀ k cs, k < E.n0 → H k = .cells cs → E.c0 k ∧ ρ k = E.ρ0 k
  fix : E.fx = true → ∀ k, k < E.n0 → alive H k → ρ k = E.ρ0 k
  grow : E.fx = true → ∀ k, k < E.n0 → ∀ vs T fr, E.w0.heap[E.ρ0 k]? = some (.cells vs T fr) → ∃ vs' T' fr', w.heap[E.ρ0 k]? = some (.cells vs' T' fr') ∧ vs.size ≤ vs'.size
  pins : ∀ p ∈ E.pins, E.ok0 p.1 ∧ w.heap[p.1]? = some p.2
  obj : ∀ k, RepO (ctxOf E H w ρ A) k (H k)
  fl : F.length = A.n
  nf : E.A0.n ≤ A.n
  A0 : ∀ f, f < E.A0.n → A.at_ f = E.A0.at_ f
  fam : ∀ (f : Nat) fam, F[f]? = some fam → RepFam (ctxOf E H w ρ A) f fam

/-- The marks that loops over functions leave among the deferred calls: none of them holds a call. -/
def MarkOk (lo : Nat) (c : Ctx) (ds : List Deferred) : Prop := ds.Nodup ∧ ∀ d ∈ ds, ∃ D, d = { target := .collected D, args := #[] } ∧ lo ≤ D ∧ c.ok D ∧ c.w.heap[D]? = some (.deferred (some []))
theorem MarkOk.nil {lo : Nat} {c : Ctx} : MarkOk lo c [] := ⟨by simp, by simp⟩
theorem MarkOk.move {lo : Nat} {c c' : Ctx} (hk : Keeps c c') {ds : List Deferred} (h : MarkOk lo c ds) : MarkOk lo c' ds :=
  ⟨h.1, fun d hd => let ⟨D, h1, h0, h2, h3⟩ := h.2 d hd; ⟨D, h1, h0, hk.ok _ h2, (hk.okw _ h2).trans h3⟩⟩

structure Sat (E : Entry) (S : FS) (tm : Nat) (a : Act) (w : World) (ρ : Nat → Nat) (A : FA) : Prop extends SatW E S.H S.F w ρ A where
  env : ∀ t, RepV (ctxOf E S.H w ρ A) (S.env t) (a.tmps.getD t undef)
  tsize : a.tmps.size = tm
  defers : MarkOk E.w0.heap.size (ctxOf E S.H w ρ A) a.defers

variable {E : Entry} {H : Nat → AO} {F : List Fam} {w : World} {ρ : Nat → Nat} {A : FA}

theorem SatW.ok_lt (h : SatW E H F w ρ A) {b : Nat} (hb : okOf E H w ρ b) : b < w.heap.size := by
  rcases hb with hb | hb
  · exact Nat.lt_of_lt_of_le (h.okB b hb).1 h.size
  · exact hb.2.1
theorem SatW.ok_ne (h : SatW E H F w ρ A) {b k : Nat} (hb : okOf E H w ρ b) (hk : alive H k) : ρ k ≠ b := by
  rcases hb with hb | hb
  · have h1 := h.okB b hb
    rcases (h.place k hk).2 with h2 | h2
    · omega
    · intro e; exact h1.2 k h2.1 (by omega)
  · exact hb.2.2.1 k hk
theorem okOf_unfr (hok : ∀ b, E.ok0 b → b < E.w0.heap.size) {b : Nat} (hb : okOf E H w ρ b) (hlo : E.w0.heap.size ≤ b) : unfr w b := by
  rcases hb with hb | hb
  · exact absurd (hok b hb) (by omega)
  · exact hb.2.2.2
theorem SatW.z_ne (h : SatW E H F w ρ A) {b k : Nat} (hb : E.Z b) (hk : alive H k) : ρ k ≠ b := by
  have h1 := h.zB b hb
  rcases (h.place k hk).2 with h2 | h2
  · omega
  · intro e; exact h1.2 k h2.1 (by omega)
theorem SatW.z_lt (h : SatW E H F w ρ A) {b : Nat} (hb : E.Z b) : b < w.heap.size := Nat.lt_of_lt_of_le (h.zB b hb).1 h.size

theorem SatW.fam_lt (h : SatW E H F w ρ A) {f : Nat} {fam : Fam} (hf : F[f]? = some fam) : f < A.n := by
  have := (List.getElem?_eq_some_iff.1 hf).1
  have h2 := h.fl
  omega

theorem RepO.unfr {c : Ctx} {k : Nat} {o : AO} (h : RepO c k o) (ho : o ≠ .dead) : unfr c.w (c.ρ k) := by
  cases o with
  | dead => exact absurd rfl ho
  | cells cs => obtain ⟨vs, T, h1, _⟩ := h; exact .of h1
  | iarr l => obtain ⟨vs, T, h1, _⟩ := h; exact .of h1
  | arr sz l => obtain ⟨vs, T, h1, _⟩ := h; exact .of h1
theorem SatW.alive_unfr (h : SatW E H F w ρ A) {k : Nat} (ha : alive H k) : unfr w (ρ k) := (h.obj k).unfr ha
/-- References to k become unknown. -/
def killF (k : Nat) (r : AV) : AV := if refOf r = some k then .any else r
def mapO (f : AV → AV) : AO → AO
  | .cells cs => .cells (cs.map (mapC f))
  | o => o
def setH (H : Nat → AO) (k : Nat) (o : AO) : Nat → AO := fun i => if i = k then o else H i
def setρ (ρ : Nat → Nat) (k b : Nat) : Nat → Nat := fun i => if i = k then b else ρ i

theorem mapO_dead {f : AV → AV} {o : AO} : mapO f o = .dead ↔ o = .dead := by cases o <;> simp [mapO]
theorem mapO_info {f : AV → AV} {o : AO} : (mapO f o).info = o.info := by cases o <;> simp [mapO, AO.info]

/-- The general step: object k gets the description o in block b; the references to it are turned by f, the others stay.
    'm' says whether the map is laid at all (false: every slot and object stays as it is written). -/
structure StepOk (E : Entry) (H : Nat → AO) (w : World) (ρ : Nat → Nat) (A : FA) (k : Nat) (o : AO) (b : Nat) (w' : World) (H' : Nat → AO) : Prop where
  os : w'.os = w.os
  tape : w'.tape = w.tape
  output : w'.output = w.output
  size : w.heap.size ≤ w'.heap.size
  same : ∀ b', b' < w.heap.size → (alive H k → b' ≠ ρ k) → w'.heap[b']? = w.heap[b']?
  here : o ≠ .dead → b < w'.heap.size ∧ ((alive H k ∧ b = ρ k) ∨ w.heap.size ≤ b)
  keep : ∀ i, i ≠ k → (alive H' i ↔ alive H i)
  at_ : H' k = o
  stay : ∀ cs, o = .cells cs → k < E.n0 → b = ρ k ∧ ∃ cs', H k = .cells cs'
  fix : E.fx = true → k < E.n0 → o ≠ .dead → b = ρ k ∧ alive H k
  grow : E.fx = true → k < E.n0 → alive H k → ∀ vs T fr, w.heap[ρ k]? = some (.cells vs T fr) → ∃ vs' T' fr', w'.heap[ρ k]? = some (.cells vs' T' fr') ∧ vs.size ≤ vs'.size

theorem StepOk.fixK {k : Nat} {o : AO} {b : Nat} {w' : World} {H' : Nat → AO} (h : SatW E H F w ρ A) (s : StepOk E H w ρ A k o b w' H') :
    E.fx = true → ∀ i, i < E.n0 → alive H' i → setρ ρ k b i = E.ρ0 i := by
  intro hfx i hi ha
  by_cases e : i = k
  · subst e
    obtain ⟨h1, h2⟩ := s.fix hfx hi (by rw [← s.at_]; exact ha)
    simp only [setρ, if_true]
    rw [h1]; exact h.fix hfx _ hi h2
  · simp only [setρ, if_neg e]
    exact h.fix hfx i hi ((s.keep i e).1 ha)
theorem StepOk.growK {k : Nat} {o : AO} {b : Nat} {w' : World} {H' : Nat → AO} (h : SatW E H F w ρ A) (s : StepOk E H w ρ A k o b w' H') :
    E.fx = true → ∀ i, i < E.n0 → ∀ vs T fr, E.w0.heap[E.ρ0 i]? = some (.cells vs T fr) → ∃ vs' T' fr', w'.heap[E.ρ0 i]? = some (.cells vs' T' fr') ∧ vs.size ≤ vs'.size := by
  intro hfx i hi vs T fr h0
  obtain ⟨vs1, T1, fr1, h1, h2⟩ := h.grow hfx i hi vs T fr h0
  have hlt0 : E.ρ0 i < E.w0.heap.size := (Array.getElem?_eq_some_iff.1 h0).1
  have hlt : E.ρ0 i < w.heap.size := (Array.getElem?_eq_some_iff.1 h1).1
  by_cases hk : alive H k ∧ E.ρ0 i = ρ k
  · have hkn : k < E.n0 := by
      rcases (h.place k hk.1).2 with h3 | h3
      · omega
      · exact h3.1
    obtain ⟨vs2, T2, fr2, h3, h4⟩ := s.grow hfx hkn hk.1 vs1 T1 fr1 (hk.2 ▸ h1)
    exact ⟨vs2, T2, fr2, by rw [hk.2]; exact h3, Nat.le_trans h2 h4⟩
  · exact ⟨vs1, T1, fr1, (s.same _ hlt fun ha e => hk ⟨ha, e⟩).trans h1, h2⟩

theorem StepOk.keeps (h : SatW E H F w ρ A) {k : Nat} {o : AO} {b : Nat} {w' : World} {H' : Nat → AO} (s : StepOk E H w ρ A k o b w' H') :
    Keeps (ctxOf E H w ρ A) (ctxOf E H' w' (setρ ρ k b) A) where
  ok b' hb := by
    have hlt := h.ok_lt hb
    rcases hb with hb | hb
    · exact .inl hb
    · have hun : unfr w' b' := hb.2.2.2.same (s.same b' hlt fun hk => (hb.2.2.1 k hk).symm)
      refine .inr ⟨hb.1, Nat.lt_of_lt_of_le hb.2.1 s.size, fun i hi => ?_, hun⟩
      by_cases e : i = k
      · subst e
        simp only [setρ, if_true]
        have hne : o ≠ .dead := by rw [← s.at_]; exact hi
        rcases (s.here hne).2 with h1 | h1
        · rw [h1.2]; exact hb.2.2.1 _ h1.1
        · omega
      · simp only [setρ, if_neg e]
        exact hb.2.2.1 i ((s.keep i e).1 hi)
  okw b' hb := s.same b' (h.ok_lt hb) fun hk => (h.ok_ne hb hk).symm
  Z _ hb := hb
  Zw b' hb := s.same b' (h.z_lt hb) fun hk => (h.z_ne hb hk).symm
  A := ⟨Nat.le_refl _, fun _ _ => rfl⟩

theorem RepFam.move {c c' : Ctx} (hk : Keeps c c') {f : Nat} (hf : f < c.A.n) {F : Fam} (h : RepFam c f F) : RepFam c' f F := by
  have hA := hk.A.2 f hf
  refine ⟨fun i cs hi => ?_, by rw [hA]; exact h.2.1, fun g hg => ?_, fun hp i cs hi => ?_⟩
  rotate_left
  · obtain ⟨h1, h2⟩ := h.2.2.1 g hg
    refine ⟨by rw [hA]; exact h1, fun cs hcs => ?_⟩
    obtain ⟨vs, T, fr, h3, h4⟩ := h2 cs hcs
    have hok := (h.1 0 cs hcs).1
    rw [h1] at hok
    exact ⟨vs, T, fr, (hok.elim (hk.okw _) (hk.Zw _)).trans h3, h4⟩
  · obtain ⟨vs, T, h3⟩ := h.2.2.2 hp i cs hi
    rw [hA]
    exact ⟨vs, T, ((h.1 i cs hi).1.elim (hk.okw _) (hk.Zw _)).trans h3⟩
  obtain ⟨hok, vf, hv⟩ := h.1 i cs hi
  rw [hA]
  refine ⟨hok.imp (hk.ok _) (hk.Z _), vf, fun j a hj => ?_⟩
  obtain ⟨h1, h2, h3, h4⟩ := hv j a hj
  exact ⟨(World.cell?_of_block (w := c.w) (hok.elim (hk.okw _) (hk.Zw _))).trans h1, h2, h3, h4.pure_move hk (pureA_of_pureB h2)⟩

/-- A block's description in the new world, its references turned by f. -/
theorem RepO.move {c c' : Ctx} (hk : Keeps c c') (f : AV → AV) (hf : ∀ r v, isRef r = true → RepV c r v → RepV c' (f r) v) {k k' : Nat} (hw : c'.w.heap[c'.ρ k']? = c.w.heap[c.ρ k]?) {o : AO} (h : RepO c k o) : RepO c' k' (mapO f o) := by
  cases o with
  | dead => trivial
  | cells cs =>
    obtain ⟨vs, T, h1, h2, h3, h4⟩ := h
    refine ⟨vs, T, hw.trans h1, by simpa using h2, h3, fun j a v ha hv => ?_⟩
    rw [List.getElem?_map] at ha
    obtain ⟨a0, ha0, rfl⟩ := Option.map_eq_some_iff.1 ha
    exact mapC_move hk f hf (h3 v (by simpa using (Array.mem_of_getElem? hv))) (h4 j a0 v ha0 hv)
  | iarr l =>
    obtain ⟨vs, T, h1, h2, h3, h4⟩ := h
    exact ⟨vs, T, hw.trans h1, h2, h3, fun i e j a v hi hj hv => ⟨(h4 i e j a v hi hj hv).1.pure_move hk (pureA_of_pureB (h4 i e j a v hi hj hv).2), (h4 i e j a v hi hj hv).2⟩⟩
  | arr sz l =>
    obtain ⟨vs, T, h1, h2, h3, h5, h4⟩ := h
    exact ⟨vs, T, hw.trans h1, h2, h3, h5, fun i e j a v hi hj hv => ⟨(h4 i e j a v hi hj hv).1.pure_move hk (pureA_of_pureB (h4 i e j a v hi hj hv).2), (h4 i e j a v hi hj hv).2⟩⟩
theorem RepO.stay {c c' : Ctx} (hk : Keeps c c') (hf : ∀ r v, isRef r = true → RepV c r v → RepV c' r v) {k : Nat} (hw : c'.w.heap[c'.ρ k]? = c.w.heap[c.ρ k]?) {o : AO} (h : RepO c k o) : RepO c' k o := by
  cases o with
  | dead => trivial
  | cells cs =>
    obtain ⟨vs, T, h1, h2, h3, h4⟩ := h
    exact ⟨vs, T, hw.trans h1, h2, h3, fun j a v ha hv => (h4 j a v ha hv).stay hk hf⟩
  | iarr l =>
    obtain ⟨vs, T, h1, h2, h3, h4⟩ := h
    exact ⟨vs, T, hw.trans h1, h2, h3, fun i e j a v hi hj hv => ⟨(h4 i e j a v hi hj hv).1.stay hk hf, (h4 i e j a v hi hj hv).2⟩⟩
  | arr sz l =>
    obtain ⟨vs, T, h1, h2, h3, h5, h4⟩ := h
    exact ⟨vs, T, hw.trans h1, h2, h3, h5, fun i e j a v hi hj hv => ⟨(h4 i e j a v hi hj hv).1.stay hk hf, (h4 i e j a v hi hj hv).2⟩⟩

theorem RepO.alive_of {c : Ctx} {r : AV} {v : Value} (hr : isRef r = true) (h : RepV c r v) : ∃ k, refOf r = some k ∧ c.H k ≠ .dead := by
  cases h <;> simp [isRef] at hr
  case ptr k off cs hk => exact ⟨k, rfl, by rw [hk]; simp⟩
  case el k i off sz n hk hi => exact ⟨k, rfl, by intro e; rw [e] at hk; simp [AO.info] at hk⟩
  case own k sz n cap hk hcap hroom => exact ⟨k, rfl, by intro e; rw [e] at hk; simp [AO.info] at hk⟩
  case sub k sz n lo hi o cap hk h1 h2 hcap hroom ho => exact ⟨k, rfl, by intro e; rw [e] at hk; simp [AO.info] at hk⟩
  case win k off n cap cs hk hcap hroom => exact ⟨k, rfl, by rw [hk]; simp⟩
  case clo f k cs hk => exact ⟨k, rfl, by rw [hk]; simp⟩
  case ifp t k off cs hk => exact ⟨k, rfl, by rw [hk]; simp⟩

/-- A reference to an object that did not change. -/
theorem RepV.ref_other {c c' : Ctx} {r : AV} {v : Value} {k : Nat} (hr : refOf r = some k) (h : RepV c r v) (hρ : c'.ρ k = c.ρ k) (hi : (c'.H k).info = (c.H k).info)
    (hcell : ∀ cs, c.H k = .cells cs → ∃ cs', c'.H k = .cells cs')
    (hw : ∀ vs T fr, c.w.heap[c.ρ k]? = some (.cells vs T fr) → ∃ vs' T' fr', c'.w.heap[c.ρ k]? = some (.cells vs' T' fr') ∧ vs.size ≤ vs'.size) : RepV c' r v := by
  have hroom : ∀ n, c.room k n → c'.room k n := by
    rintro n ⟨vs, T, fr, h1, h2⟩
    obtain ⟨vs', T', fr', h3, h4⟩ := hw vs T fr h1
    exact ⟨vs', T', fr', by rw [hρ]; exact h3, by omega⟩
  cases h <;> simp [refOf] at hr
  case ptr k' off cs hk =>
    subst hr
    obtain ⟨cs', hcs⟩ := hcell cs hk
    rw [← hρ]; exact .ptr k' off cs' hcs
  case el k' i off sz n hk hi' => subst hr; rw [← hρ]; exact .el k' i off sz n (hi.trans hk) hi'
  case own k' sz n cap hk hcap hro => subst hr; rw [← hρ]; exact .own k' sz n cap (hi.trans hk) hcap (hroom _ hro)
  case sub k' sz n lo hi' o cap hk h1 h2 hcap hro ho => subst hr; rw [← hρ]; exact .sub k' sz n lo hi' o cap (hi.trans hk) h1 h2 hcap (hroom _ hro) ho
  case win k' off n cap cs hk hcap hro =>
    subst hr
    obtain ⟨cs', hcs⟩ := hcell cs hk
    rw [← hρ]; exact .win k' off n cap cs' hcs hcap (hroom _ hro)
  case clo f k' cs hk =>
    subst hr
    obtain ⟨cs', hcs⟩ := hcell cs hk
    rw [← hρ]; exact .clo f k' cs' hcs
  case ifp t k' off cs hk =>
    subst hr
    obtain ⟨cs', hcs⟩ := hcell cs hk
    rw [← hρ]; exact .ifp t k' off cs' hcs

/-- The step without a map. -/
theorem Sat.step {S : FS} {tm : Nat} {a : Act} (h : Sat E S tm a w ρ A) {k : Nat} {o : AO} {b : Nat} {w' : World} (s : StepOk E S.H w ρ A k o b w' (setH S.H k o))
    (hobj : (∀ r v, isRef r = true → RepV (ctxOf E S.H w ρ A) r v → RepV (ctxOf E (setH S.H k o) w' (setρ ρ k b) A) r v) → RepO (ctxOf E (setH S.H k o) w' (setρ ρ k b) A) k o)
    (hk : ∀ r v, refOf r = some k → RepV (ctxOf E S.H w ρ A) r v → RepV (ctxOf E (setH S.H k o) w' (setρ ρ k b) A) r v) :
    Sat E ⟨S.env, setH S.H k o, S.F⟩ tm a w' (setρ ρ k b) A := by
  have kp := s.keeps h.toSatW
  have hother : ∀ i, i ≠ k → alive S.H i → w'.heap[ρ i]? = w.heap[ρ i]? := fun i hi ha => s.same _ (h.place i ha).1 fun hk' e => hi (h.inj i k ha hk' e)
  have href : ∀ r v, isRef r = true → RepV (ctxOf E S.H w ρ A) r v → RepV (ctxOf E (setH S.H k o) w' (setρ ρ k b) A) r v := by
    intro r v hr hv
    obtain ⟨i, hi, ha⟩ := RepO.alive_of hr hv
    by_cases e : i = k
    · subst e; exact hk r v hi hv
    · refine hv.ref_other hi (by simp [setρ, e]) (by simp [setH, e]) (fun cs hcs => ⟨cs, by simpa [setH, e] using hcs⟩) fun vs T fr hb => ⟨vs, T, fr, ?_, Nat.le_refl _⟩
      show w'.heap[ρ i]? = _
      rw [hother i e ha]; exact hb
  refine { os := s.os.trans h.os, tape := s.tape.trans h.tape, output := s.output.trans h.output, size := Nat.le_trans h.size s.size, okB := h.okB, zB := h.zB, fl := h.fl, nf := h.nf, A0 := h.A0, tsize := h.tsize, defers := h.defers.move kp, fix := s.fixK h.toSatW, grow := s.growK h.toSatW, pins := fun p hp => ⟨(h.pins p hp).1, (kp.okw _ (.inl (h.pins p hp).1)).trans (h.pins p hp).2⟩,
           frame := ?_, place := ?_, inj := ?_, stay := ?_, obj := ?_, fam := fun f fam hf => (h.fam f fam hf).move kp (h.fam_lt hf), env := fun t => (h.env t).stay kp href }
  · intro b' hb' hn
    rw [s.same b' (Nat.lt_of_lt_of_le hb' h.size) ?_]
    · exact h.frame b' hb' hn
    · intro hk'
      rcases (h.place k hk').2 with h2 | h2
      · omega
      · intro e; exact hn k h2.1 (by omega)
  · intro i hi
    by_cases e : i = k
    · subst e
      have hne : o ≠ .dead := by simpa [alive, setH] using hi
      have := s.here hne
      simp only [setρ, if_true]
      refine ⟨this.1, ?_⟩
      rcases this.2 with h1 | h1
      · rw [h1.2]; exact (h.place i h1.1).2
      · exact .inl (Nat.le_trans h.size h1)
    · have ha : alive S.H i := by simpa [alive, setH, e] using hi
      simp only [setρ, if_neg e]
      exact ⟨Nat.lt_of_lt_of_le (h.place i ha).1 s.size, (h.place i ha).2⟩
  · intro i j hi hj hij
    by_cases e : i = k
    · by_cases e' : j = k
      · rw [e, e']
      · have ha : alive S.H j := by simpa [alive, setH, e'] using hj
        have hne : o ≠ .dead := by subst e; simpa [alive, setH] using hi
        simp only [setρ, if_pos e, if_neg e'] at hij
        rcases (s.here hne).2 with h1 | h1
        · rw [h1.2] at hij
          rw [e]; exact h.inj k j h1.1 ha hij
        · have := (h.place j ha).1; omega
    · have hai : alive S.H i := by simpa [alive, setH, e] using hi
      by_cases e' : j = k
      · have hne : o ≠ .dead := by subst e'; simpa [alive, setH] using hj
        simp only [setρ, if_neg e, if_pos e'] at hij
        rcases (s.here hne).2 with h1 | h1
        · rw [h1.2] at hij
          rw [e']; exact h.inj i k hai h1.1 hij
        · have := (h.place i hai).1; omega
      · have haj : alive S.H j := by simpa [alive, setH, e'] using hj
        simp only [setρ, if_neg e, if_neg e'] at hij
        exact h.inj i j hai haj hij
  · intro i cs hi hcs
    by_cases e : i = k
    · subst e
      simp only [setH, if_true] at hcs
      obtain ⟨h1, cs', h2⟩ := s.stay cs hcs hi
      simp only [setρ, if_true]
      rw [h1]
      exact h.stay i cs' hi h2
    · simp only [setH, if_neg e] at hcs
      simp only [setρ, if_neg e]
      exact h.stay i cs hi hcs
  · intro i
    by_cases e : i = k
    · subst e; simp only [setH, if_true]; exact hobj href
    · simp only [setH, if_neg e]
      by_cases ha : alive S.H i
      · refine (h.obj i).stay kp href ?_
        show w'.heap[setρ ρ k b i]? = w.heap[ρ i]?
        simp only [setρ, if_neg e]
        exact hother i e ha
      · have hd : S.H i = .dead := Classical.byContradiction ha
        rw [hd]; trivial

def mapH (f : AV → AV) (H : Nat → AO) (k : Nat) (o : AO) : Nat → AO := fun i => if i = k then o else mapO f (H i)

/-- The step with a map. -/
theorem Sat.stepMap {S : FS} {tm : Nat} {a : Act} (h : Sat E S tm a w ρ A) (f : AV → AV) {k : Nat} {o : AO} {b : Nat} {w' : World} (s : StepOk E S.H w ρ A k o b w' (mapH f S.H k o))
    (hne : ∀ r, refOf r ≠ some k → f r = r)
    (hobj : RepO (ctxOf E (mapH f S.H k o) w' (setρ ρ k b) A) k o)
    (hk : ∀ r v, refOf r = some k → RepV (ctxOf E S.H w ρ A) r v → RepV (ctxOf E (mapH f S.H k o) w' (setρ ρ k b) A) (f r) v) :
    Sat E ⟨fun t => mapR f (S.env t), mapH f S.H k o, S.F⟩ tm a w' (setρ ρ k b) A := by
  have kp := s.keeps h.toSatW
  have hother : ∀ i, i ≠ k → alive S.H i → w'.heap[ρ i]? = w.heap[ρ i]? := fun i hi ha => s.same _ (h.place i ha).1 fun hk' e => hi (h.inj i k ha hk' e)
  have hal : ∀ i, i ≠ k → (alive (mapH f S.H k o) i ↔ alive S.H i) := by
    intro i hi
    simp [alive, mapH, hi, mapO_dead]
  have href : ∀ r v, isRef r = true → RepV (ctxOf E S.H w ρ A) r v → RepV (ctxOf E (mapH f S.H k o) w' (setρ ρ k b) A) (f r) v := by
    intro r v hr hv
    obtain ⟨i, hi, ha⟩ := RepO.alive_of hr hv
    by_cases e : i = k
    · subst e; exact hk r v hi hv
    · rw [hne r (by rw [hi]; simpa using e)]
      refine hv.ref_other hi (by simp [setρ, e]) (by simp [mapH, e, mapO_info]) (fun cs hcs => ⟨cs.map (mapC f), ?_⟩) fun vs T fr hb => ⟨vs, T, fr, ?_, Nat.le_refl _⟩
      · have hcs' : S.H i = .cells cs := hcs
        simp [mapH, e, hcs', mapO]
      · show w'.heap[ρ i]? = _
        rw [hother i e ha]; exact hb
  refine { os := s.os.trans h.os, tape := s.tape.trans h.tape, output := s.output.trans h.output, size := Nat.le_trans h.size s.size, okB := h.okB, zB := h.zB, fl := h.fl, nf := h.nf, A0 := h.A0, tsize := h.tsize, defers := h.defers.move kp, fix := s.fixK h.toSatW, grow := s.growK h.toSatW, pins := fun p hp => ⟨(h.pins p hp).1, (kp.okw _ (.inl (h.pins p hp).1)).trans (h.pins p hp).2⟩,
           frame := ?_, place := ?_, inj := ?_, stay := ?_, obj := ?_, fam := fun f fam hf => (h.fam f fam hf).move kp (h.fam_lt hf), env := fun t => (h.env t).move kp f href }
  · intro b' hb' hn
    rw [s.same b' (Nat.lt_of_lt_of_le hb' h.size) ?_]
    · exact h.frame b' hb' hn
    · intro hk'
      rcases (h.place k hk').2 with h2 | h2
      · omega
      · intro e; exact hn k h2.1 (by omega)
  · intro i hi
    by_cases e : i = k
    · subst e
      have hne : o ≠ .dead := by simpa [alive, mapH] using hi
      have := s.here hne
      simp only [setρ, if_true]
      refine ⟨this.1, ?_⟩
      rcases this.2 with h1 | h1
      · rw [h1.2]; exact (h.place i h1.1).2
      · exact .inl (Nat.le_trans h.size h1)
    · have ha : alive S.H i := (hal i e).1 hi
      simp only [setρ, if_neg e]
      exact ⟨Nat.lt_of_lt_of_le (h.place i ha).1 s.size, (h.place i ha).2⟩
  · intro i j hi hj hij
    by_cases e : i = k
    · by_cases e' : j = k
      · rw [e, e']
      · have ha : alive S.H j := (hal j e').1 hj
        have hne : o ≠ .dead := by subst e; simpa [alive, mapH] using hi
        simp only [setρ, if_pos e, if_neg e'] at hij
        rcases (s.here hne).2 with h1 | h1
        · rw [h1.2] at hij
          rw [e]; exact h.inj k j h1.1 ha hij
        · have := (h.place j ha).1; omega
    · have hai : alive S.H i := (hal i e).1 hi
      by_cases e' : j = k
      · have hne : o ≠ .dead := by subst e'; simpa [alive, mapH] using hj
        simp only [setρ, if_neg e, if_pos e'] at hij
        rcases (s.here hne).2 with h1 | h1
        · rw [h1.2] at hij
          rw [e']; exact h.inj i k hai h1.1 hij
        · have := (h.place i hai).1; omega
      · have haj : alive S.H j := (hal j e').1 hj
        simp only [setρ, if_neg e, if_neg e'] at hij
        exact h.inj i j hai haj hij
  · intro i cs hi hcs
    by_cases e : i = k
    · subst e
      simp only [mapH, if_true] at hcs
      obtain ⟨h1, cs', h2⟩ := s.stay cs hcs hi
      simp only [setρ, if_true]
      rw [h1]
      exact h.stay i cs' hi h2
    · simp only [mapH, if_neg e] at hcs
      simp only [setρ, if_neg e]
      cases hH : S.H i with
      | cells cs' => exact h.stay i cs' hi hH
      | dead => rw [hH] at hcs; simp [mapO] at hcs
      | iarr l => rw [hH] at hcs; simp [mapO] at hcs
      | arr sz l => rw [hH] at hcs; simp [mapO] at hcs
  · intro i
    by_cases e : i = k
    · subst e; simp only [mapH, if_true]; exact hobj
    · simp only [mapH, if_neg e]
      by_cases ha : alive S.H i
      · refine (h.obj i).move kp f href ?_
        show w'.heap[setρ ρ k b i]? = w.heap[ρ i]?
        simp only [setρ, if_neg e]
        exact hother i e ha
      · have hd : S.H i = .dead := Classical.byContradiction ha
        rw [hd]; trivial

/-- A draw changes nothing. -/
theorem Sat.drew {S : FS} {tm : Nat} {a : Act} (h : Sat E S tm a w ρ A) : Sat E S tm a w.drew ρ A := by
  have kp : Keeps (ctxOf E S.H w ρ A) (ctxOf E S.H w.drew ρ A) := ⟨fun _ h => h, fun _ _ => rfl, fun _ h => h, fun _ _ => rfl, Nat.le_refl _, fun _ _ => rfl⟩
  have href : ∀ r v, isRef r = true → RepV (ctxOf E S.H w ρ A) r v → RepV (ctxOf E S.H w.drew ρ A) r v := by
    intro r v hr hv
    obtain ⟨k, hk, _⟩ := RepO.alive_of hr hv
    exact hv.ref_other hk rfl rfl (fun cs h => ⟨cs, h⟩) fun vs T fr h => ⟨vs, T, fr, h, Nat.le_refl _⟩
  exact { os := h.os, tape := h.tape, output := h.output, size := h.size, frame := h.frame, okB := h.okB, zB := h.zB, place := h.place, inj := h.inj, stay := h.stay, fix := h.fix, grow := h.grow, pins := h.pins, fl := h.fl, nf := h.nf, A0 := h.A0, tsize := h.tsize, defers := h.defers.move kp,
          obj := fun k => (h.obj k).stay kp href rfl, fam := fun f fam hf => (h.fam f fam hf).move kp (h.fam_lt hf), env := fun t => (h.env t).stay kp href }

def setE (env : Nat → AV) (tm : Nat) (d : Option Tmp) (x : AV) : Nat → AV := fun t => if some t = d ∧ t < tm then x else env t

theorem eval_put {a : Act} {d : Option Tmp} {v : Value} (t : Nat) : (a.put d v).tmps.getD t undef = if some t = d ∧ t < a.tmps.size then v else a.tmps.getD t undef := by
  cases d with
  | none => simp [Act.put]
  | some d =>
    simp only [Act.put, Option.some.injEq, Array.getD_eq_getD_getElem?, Array.getElem?_setIfInBounds]
    by_cases e : t = d
    · subst e
      by_cases hl : t < a.tmps.size <;> simp [hl]
    · have e' : ¬ d = t := fun h => e h.symm
      simp [e, e']

/-- A slot is written. -/
theorem Sat.put {S : FS} {tm : Nat} {a : Act} (h : Sat E S tm a w ρ A) (d : Option Tmp) {x : AV} {v : Value} (hv : RepV (ctxOf E S.H w ρ A) x v) : Sat E ⟨setE S.env tm d x, S.H, S.F⟩ tm (a.put d v) w ρ A := by
  have hts : (a.put d v).tmps.size = a.tmps.size := by cases d <;> simp [Act.put]
  have hdf : (a.put d v).defers = a.defers := by cases d <;> simp [Act.put]
  refine { h.toSatW with env := fun t => ?_, tsize := hts.trans h.tsize, defers := by rw [hdf]; exact h.defers }
  rw [eval_put, h.tsize]
  simp only [setE]
  split
  · exact hv
  · exact h.env t
end Go.Vc
namespace Go.Vc

/-- What the operations ask of a type. 'kind': 1 slice, 2 array, 3 struct, 4 string, 5 bool, 6 an integer, 7 pointer, 8 interface, 0 other. -/
structure TI where
  kind : Nat
  agg : Bool
  size : Nat
  bytes : Nat
  zero : List Value
  fields : List (Nat × Nat)
  elem : TypeId
  alen : Nat
  ik : IntKind

/-- A struct of two integers, compared by '=='. -/
def Cmp2 (P : Program) (t : TypeId) : Prop :=
  ∃ f1 f2 : Field, P.underlying t = some (.struct #[f1, f2]) ∧ f1.name ≠ "_" ∧ f2.name ≠ "_" ∧ f1.offset = 0 ∧ f2.offset = 1 ∧ P.underlying f1.type = some (.int .i64) ∧ P.underlying f2.type = some (.int .i64) ∧ P.stoodInHeld t = false ∧ P.eqGuardType P.depth t = false
structure TyOk (P : Program) (t : TypeId) (ti : TI) : Prop where
  info : ∃ i z, P.info? t = some i ∧ i.size = ti.size ∧ i.bytes = ti.bytes ∧ i.zero = some z ∧ z.cells.toList = ti.zero
  one : ∀ v ∈ ti.zero, v.oneCell' = true
  zlen : ti.zero.length = ti.size
  agg : ∀ w, (isAgg t).run P w = .ok ti.agg w
  sz1 : ti.agg = false → ti.size = 1
  slice : ti.kind = 1 → P.underlying t = some (.slice ti.elem)
  array : ti.kind = 2 → P.underlying t = some (.array ti.alen ti.elem)
  struct : ti.kind = 3 → ∃ fs, P.underlying t = some (.struct fs) ∧ (ti.fields = fs.toList.map fun f => (f.offset, P.cellsOf f.type)) ∧ ∀ f ∈ fs, 0 < P.cellsOf f.type
  string : ti.kind = 4 → P.underlying t = some .string
  bool : ti.kind = 5 → P.underlying t = some .bool
  int : ti.kind = 6 → P.underlying t = some (.int ti.ik)
  ptr : ti.kind = 7 → P.underlying t = some (.pointer ti.elem)
  iface : ti.kind = 8 → ∃ ms, P.underlying t = some (.interface ms)
  cmp : ti.kind = 3 → ti.alen = 1 → Cmp2 P t
  zagg : ti.agg = true → ∃ i vs, P.info? t = some i ∧ i.zero = some (.agg vs)

abbrev TT := TypeId → Option TI
def TOk (P : Program) (T : TT) : Prop := ∀ t ti, T t = some ti → TyOk P t ti

/-- What a call asks and leaves: 'nnew' objects at most are new; 'mode' 0: it reads what it is given; 1: pointers are handed over; 2: every reference is; 3: every reference is, and all stays in its block, with its size. -/
structure Con where
  nnew : Nat
  mode : Nat
  alias : Bool
  C : List AV → List AO → List Fam → (AV → List AO → List Fam → Prop) → Prop
/-- An iterator that has captured one variable: what this holds at first, how many rounds there are, what each is given, what the variable holds at each round. -/
abbrev It := AV → Nat → (Nat → List Value) → (Nat → AV) → Prop
/-- The contracts at hand; 'fx': whether what came in must stay in its block. -/
structure CT where
  get : FuncId → Option Con
  fx : Bool
  it : FuncId → Option It := fun _ => none
  me : TypeId → String → Option (FuncId × Bool × TypeId) := fun _ _ => none

structure Eff where
  val : AV
  kill : Option Nat := none
  upd : List (Nat × AO) := []
  new : List AO := []
  newF : List Fam := []

def extH (H : Nat → AO) (n : Nat) : List AO → Nat → AO
  | [] => H
  | o :: r => extH (setH H n o) (n + 1) r
def updH (H : Nat → AO) : List (Nat × AO) → Nat → AO
  | [] => H
  | (k, o) :: r => updH (setH H k o) r
def killE (kill : Option Nat) (env : Nat → AV) : Nat → AV := match kill with
  | none => env
  | some k => fun t => mapR (killF k) (env t)
def killH (kill : Option Nat) (H : Nat → AO) : Nat → AO := match kill with
  | none => H
  | some k => fun i => mapO (killF k) (H i)
def addF (F : List Fam) : List Fam → List Fam
  | [] => F
  | l => F ++ l
def applyF (S : FS) (tm n : Nat) (d : Option Tmp) (e : Eff) : FS :=
  ⟨setE (killE e.kill S.env) tm d e.val, extH (updH (killH e.kill S.H) e.upd) n e.new, addF S.F e.newF⟩

/-- What a step leaves alone: all but the objects that it touches. -/
structure Fr (H : Nat → AO) (ρ : Nat → Nat) (w : World) (tch : Nat → Prop) (H' : Nat → AO) (ρ' : Nat → Nat) (w' : World) : Prop where
  size : w.heap.size ≤ w'.heap.size
  same : ∀ b, b < w.heap.size → (∀ k, alive H k → tch k → ρ k ≠ b) → w'.heap[b]? = w.heap[b]?
  src : ∀ k, alive H' k → (alive H k ∧ ρ' k = ρ k) ∨ w.heap.size ≤ ρ' k
  keep : ∀ k, alive H k → ¬ tch k → alive H' k ∧ ρ' k = ρ k
theorem Fr.refl {H : Nat → AO} {ρ : Nat → Nat} {w : World} {tch : Nat → Prop} : Fr H ρ w tch H ρ w := ⟨Nat.le_refl _, fun _ _ _ => rfl, fun _ h => .inl ⟨h, rfl⟩, fun _ h _ => ⟨h, rfl⟩⟩
theorem Fr.of_step {E : Entry} {H : Nat → AO} {w : World} {ρ : Nat → Nat} {A : FA} {k : Nat} {o : AO} {b : Nat} {w' : World} {H' : Nat → AO} (s : StepOk E H w ρ A k o b w' H') {tch : Nat → Prop} (hk : alive H k → tch k) : Fr H ρ w tch H' (setρ ρ k b) w' := by
  refine ⟨s.size, fun b' hb hn => s.same b' hb fun ha => (hn k ha (hk ha)).symm, fun i hi => ?_, fun i hi hn => ?_⟩
  · by_cases e : i = k
    · subst e
      have hne : o ≠ .dead := by rw [← s.at_]; exact hi
      simp only [setρ, if_true]
      exact (s.here hne).2
    · simp only [setρ, if_neg e]
      exact .inl ⟨(s.keep i e).1 hi, trivial⟩
  · have e : i ≠ k := by rintro rfl; exact hn (hk hi)
    simp only [setρ, if_neg e]
    exact ⟨(s.keep i e).2 hi, trivial⟩
def tchE (e : Eff) (k : Nat) : Prop := (∃ o, (k, o) ∈ e.upd) ∨ e.kill = some k

def Fin (E : Entry) (S : FS) (tm n : Nat) (d : Option Tmp) (ρ₀ : Nat → Nat) (w₀ : World) (K : Eff → Prop) : Act → World → Prop :=
  fun a' w' => ∃ e, K e ∧ ∃ ρ A, Sat E (applyF S tm n d e) tm a' w' ρ A ∧ Fr S.H ρ₀ w₀ (tchE e) (applyF S tm n d e).H ρ w'

/-- In the range of the kind. -/
def rng (k : IntKind) (n : Int) : Prop := match k with
  | .i64 => -9223372036854775808 ≤ n ∧ n ≤ 9223372036854775807
  | .u8 => 0 ≤ n ∧ n ≤ 255
  | .u64 => 0 ≤ n ∧ n ≤ 18446744073709551615
  | k => k.wrap n = n
theorem rng_wrap {k : IntKind} {n : Int} (h : rng k n) : k.wrap n = n := by
  cases k <;> simp only [rng] at h <;> first | exact h | (simp only [IntKind.wrap, IntKind.bits, IntKind.signed]; simp; omega)

/-- One way or the other. -/
def brK (b : Bool) (X Y : Prop) : Prop := match b with
  | true => X
  | false => Y
theorem brK_out {b : Bool} {X Y : Prop} (h : brK b X Y) : (b = true → X) ∧ (b = false → Y) := by cases b <;> simp_all [brK]
theorem brK_in {b : Bool} {X Y : Prop} (h1 : b = true → X) (h2 : b = false → Y) : brK b X Y := by cases b <;> simp_all [brK]
theorem brK_dec {p : Prop} [Decidable p] {X Y : Prop} (h1 : p → X) (h2 : ¬p → Y) : brK (decide p) X Y := brK_in (fun h => h1 (of_decide_eq_true h)) (fun h => h2 (of_decide_eq_false h))
theorem brK_ndec {p : Prop} [Decidable p] {X Y : Prop} (h1 : ¬p → X) (h2 : p → Y) : brK (!decide p) X Y := brK_in (fun h => h1 (by simpa using h)) (fun h => h2 (by simpa using h))
theorem brK_not {b : Bool} {X Y : Prop} (h1 : b = false → X) (h2 : b = true → Y) : brK (!b) X Y := brK_in (fun h => h1 (by simpa using h)) (fun h => h2 (by simpa using h))

/-- A value that stands as it is. -/
def outV (K : Eff → Prop) (x : AV) : Prop := K { val := x }

/-- A quotient: of a number that is not negative, or of a small negative one. -/
inductive Quo (X Y : Prop) : Prop
  | l (h : X)
  | r (h : Y)
def binA (op : BinOp) (x y : AV) (K : AV → Prop) : Prop :=
  match x, y with
  | .val (.int k a), .val (.int k' b) =>
    match op with
    | .add => k = k' ∧ rng k (a + b) ∧ K (.val (.int k (a + b)))
    | .sub => k = k' ∧ rng k (a - b) ∧ K (.val (.int k (a - b)))
    | .mul => k = k' ∧ rng k (a * b) ∧ K (.val (.int k (a * b)))
    | .quo => k = k' ∧ 0 < b ∧ Quo (0 ≤ a ∧ rng k (a / b) ∧ K (.val (.int k (a / b)))) ((0 < a + b ∧ a < 0) ∧ K (.val (.int k 0)))
    | .rem => k = k' ∧ 0 ≤ a ∧ 0 < b ∧ K (.val (.int k (a % b)))
    | .xor => k = k' ∧ K (.val (.int k (bits .xor k a b)))
    | .and => k = k' ∧ K (.val (.int k (bits .and k a b)))
    | .or => k = k' ∧ K (.val (.int k (bits .or k a b)))
    | .eql => k = k' ∧ K (B (decide (a = b)))
    | .neq => k = k' ∧ K (B (!decide (a = b)))
    | .lss => k = k' ∧ K (B (decide (a < b)))
    | .leq => k = k' ∧ K (B (decide (a ≤ b)))
    | .gtr => k = k' ∧ K (B (decide (b < a)))
    | .geq => k = k' ∧ K (B (decide (b ≤ a)))
    | .shr => 0 ≤ a ∧ b = 1 ∧ 1 ≤ k.bits ∧ K (.val (.int k (a / 2)))
    | _ => False
  | .val (.string a), .val (.string b) =>
    match op with
    | .add => a.size + b.size ≤ 9223372036854775807 ∧ K (.val (.string (a ++ b)))
    | .eql => K (B (a.toList == b.toList))
    | .neq => K (B (!(a.toList == b.toList)))
    | _ => False
  | _, _ => False

def binB (T : TT) (op : BinOp) (t : TypeId) (x y : AV) (K : AV → Prop) : Prop :=
  match x, y with
  | .val (.bool a), .val (.bool b) =>
    match T t with
    | some ti => ti.kind = 5 ∧ match op with
      | .eql => K (B (a == b))
      | .neq => K (B (!(a == b)))
      | _ => False
    | none => False
  | x, y => binA op x y K

def eqK (op : BinOp) (b : Bool) (K : AV → Prop) : Prop := match op with
  | .eql => K (B b)
  | .neq => K (B (!b))
  | _ => False
/-- A comparison with nil. -/
def nilA' (T : TT) (op : BinOp) (t : TypeId) (cst : Bool) (x y : AV) (K : AV → Prop) : Prop :=
  match T t with
  | none => False
  | some ti => match x, y with
    | .val .nilIface, .val .nilIface => ti.kind = 8 ∧ cst = true ∧ eqK op true K
    | .iface _ _, .val .nilIface => ti.kind = 8 ∧ eqK op false K
    | .val (.pointer none), .val (.pointer none) => ti.kind = 7 ∧ eqK op true K
    | .ptr _ _, .val (.pointer none) => ti.kind = 7 ∧ eqK op false K
    | .el _ _ _, .val (.pointer none) => ti.kind = 7 ∧ eqK op false K
    | .rp _ _ _, .val (.pointer none) => ti.kind = 7 ∧ eqK op false K
    | .ro _, .val (.pointer none) => ti.kind = 7 ∧ eqK op false K
    | _, _ => False
def binC (T : TT) (op : BinOp) (t : TypeId) (cst : Bool) (x y : AV) (K : AV → Prop) : Prop :=
  match y with
  | .val .nilIface => nilA' T op t cst x y K
  | .val (.pointer none) => nilA' T op t cst x y K
  | y => binB T op t x y K
/-- Whether two pointers into families are the same: known by their numbers, or by a number that they lead to. -/
def rpCmp (F : List Fam) (f i o f' i' o' : Nat) : Bool → Prop
  | true => f = f' ∧ i = i' ∧ o = o'
  | false => ∃ (cs cs' : List AV) (j : Nat) (n m : Int), famOwn F f i cs ∧ famOwn F f' i' cs' ∧ cs[j]? = some (I n) ∧ cs'[j]? = some (I m) ∧ n ≠ m
def rpEq (T : TT) (F : List Fam) (op : BinOp) (t : TypeId) (f i o f' i' o' : Nat) (K : AV → Prop) : Prop :=
  match T t with
  | none => False
  | some ti => ti.kind = 7 ∧ (∃ te, T ti.elem = some te ∧ 0 < te.size) ∧ ∃ b : Bool, rpCmp F f i o f' i' o' b ∧ eqK op b K
/-- Two structs of two integers each. -/
def eqS (T : TT) (op : BinOp) (t : TypeId) (xs ys : List AV) (K : AV → Prop) : Prop :=
  match xs, ys with
  | [.val (.int .i64 a), .val (.int .i64 b)], [.val (.int .i64 a'), .val (.int .i64 b')] => match T t with
    | none => False
    | some ti => ti.kind = 3 ∧ ti.alen = 1 ∧ eqK op (decide (a = a' ∧ b = b')) K
  | _, _ => False
def isConst : Operand → Bool
  | .const _ => true
  | _ => false

def unA (op : UnOp) (x : AV) (K : AV → Prop) : Prop :=
  match op, x with
  | .not, .val (.bool b) => K (B (!b))
  | .neg, .val (.int k n) => rng k (0 - n) ∧ K (.val (.int k (0 - n)))
  | _, _ => False

def ikK (ik : IntKind) (k : IntKind → Prop) : Prop := match ik with
  | .i8 => k .i8
  | .i16 => k .i16
  | .i32 => k .i32
  | .i64 => k .i64
  | .u8 => k .u8
  | .u16 => k .u16
  | .u32 => k .u32
  | .u64 => k .u64
theorem ikK_out {ik : IntKind} {k : IntKind → Prop} (h : ikK ik k) : k ik := by cases ik <;> exact h
def convA (T : TT) (src dst : TypeId) (x : AV) (K : AV → Prop) : Prop :=
  match x, T src, T dst with
  | .val (.int _ n), some ts, some ti => ts.kind = 6 ∧ ti.kind = 6 ∧ ikK ti.ik fun ik => rng ik n ∧ K (.val (.int ik n))
  | .val (.string s), some ts, some ti => ts.kind = 4 ∧ ti.kind = 4 ∧ K (.val (.string s))
  | _, _, _ => False

/-- A slice of one byte as a text. -/
def convB (T : TT) (H : Nat → AO) (src dst : TypeId) (x : AV) (K : AV → Prop) : Prop :=
  match x with
  | .own k => match H k, T src, T dst with
    | .arr _ [[.val (.int .u8 n)]], some ts, some ti => ts.kind = 1 ∧ ti.kind = 4 ∧ (∃ te, T ts.elem = some te ∧ te.kind = 6 ∧ te.ik = .u8) ∧ 0 ≤ n ∧ n < 256 ∧ K (.val (.string ⟨#[UInt8.ofNat n.toNat]⟩))
    | _, _, _ => False
  | x => convA T src dst x K
def lenA (H : Nat → AO) (x : AV) (K : AV → Prop) : Prop :=
  match x with
  | .ints l => K (I l.length)
  | .bytes l => K (I l.length)
  | .sl _ l => K (I l.length)
  | .zsl _ l => K (I l.length)
  | .own k => match H k with
    | .iarr l => K (I l.length)
    | .arr _ l => K (I l.length)
    | _ => False
  | .sub _ lo hi => K (I ((hi - lo : Nat) : Int))
  | .win _ _ n => K (I n)
  | .val (.slice _ n _) => K (I n)
  | _ => False

def fieldAddrA (T : TT) (t : TypeId) (x : AV) (f : Nat) (K : AV → Prop) : Prop :=
  match T t with
  | some ti => ti.kind = 3 ∧ match ti.fields[f]? with
    | some (o, s) => 0 < s ∧ match x with
      | .ptr k off => K (.ptr k (off + o))
      | .el k i off => K (.el k i (off + o))
      | .rp g i off => K (.rp g i (off + o))
      | .ro cs => K (.ro (cs.drop o))
      | _ => False
    | none => False
  | none => False

/-- A piece of a row as a value of a type. -/
def pieceA (ti : TI) (cs : List AV) (K : AV → Prop) : Prop :=
  if ti.agg then ti.size ≤ cs.length ∧ K (.agg (cs.take ti.size))
  else match cs with
    | c :: _ => K c
    | [] => False

def loadA (T : TT) (H : Nat → AO) (F : List Fam) (t : TypeId) (x : AV) (K : AV → Prop) : Prop :=
  match T t with
  | some ti => match x with
    | .ro cs => pieceA ti cs K
    | .ptr k off => match H k with
      | .cells cs => pieceA ti (cs.drop off) K
      | _ => False
    | .el k i off => match H k with
      | .iarr l => off = 0 ∧ ti.agg = false ∧ ∀ x, l[i]? = some x → K (I x)
      | .arr _ l => ∀ e, l[i]? = some e → pieceA ti (e.drop off) K
      | _ => False
    | .rp g i off => ∃ cs, famAt F g i cs ∧ pieceA ti (cs.drop off) K
    | .val (.pointer (some ⟨g, off, none⟩)) => ∃ cs, pinOf F g = some cs ∧ pieceA ti (cs.drop off) K
    | _ => False
  | none => False

def indexA (T : TT) (H : Nat → AO) (t : TypeId) (x i : AV) (K : AV → Prop) : Prop :=
  match T t, i with
  | some ti, .val (.int _ n) =>
    match x with
    | .ints l => ti.kind = 1 ∧ 0 ≤ n ∧ n < l.length ∧ (∃ te, T ti.elem = some te ∧ te.size = 1) ∧ ∀ x, l[n.toNat]? = some x → K (.ro [I x])
    | .bytes l => ti.kind = 1 ∧ 0 ≤ n ∧ n < l.length ∧ (∃ te, T ti.elem = some te ∧ te.size = 1) ∧ ∀ x, l[n.toNat]? = some x → x.toNat < 256 → K (.ro [.val (.int .u8 x.toNat)])
    | .sl sz l => ti.kind = 1 ∧ 0 ≤ n ∧ n < l.length ∧ (∃ te, T ti.elem = some te ∧ te.size = sz) ∧ ∀ e, l[n.toNat]? = some e → K (.ro e)
    | .zsl sz l => ti.kind = 1 ∧ 0 ≤ n ∧ n < l.length ∧ (∃ te, T ti.elem = some te ∧ te.size = sz) ∧ ∀ e, l[n.toNat]? = some e → K (.ro e)
    | .own k => ti.kind = 1 ∧ 0 ≤ n ∧ (match (H k).info with
      | some (sz, m) => n < m ∧ ∃ te, T ti.elem = some te ∧ te.size = sz
      | none => False) ∧ K (.el k n.toNat 0)
    | .sub k lo hi => ti.kind = 1 ∧ 0 ≤ n ∧ (match (H k).info with
      | some (sz, _) => n < ((hi - lo : Nat) : Int) ∧ ∃ te, T ti.elem = some te ∧ te.size = sz
      | none => False) ∧ K (.el k (lo + n.toNat) 0)
    | .ptr k off => ti.kind = 2 ∧ 0 ≤ n ∧ n < ti.alen ∧ ∃ te, T ti.elem = some te ∧ K (.ptr k (off + n.toNat * te.size))
    | .rp g j off => ti.kind = 2 ∧ 0 ≤ n ∧ n < ti.alen ∧ ∃ te, T ti.elem = some te ∧ K (.rp g j (off + n.toNat * te.size))
    | .ro cs => ti.kind = 2 ∧ 0 ≤ n ∧ n < ti.alen ∧ ∃ te, T ti.elem = some te ∧ K (.ro (cs.drop (n.toNat * te.size)))
    | .val (.pointer (some ⟨g, off, none⟩)) => ti.kind = 2 ∧ 0 ≤ n ∧ n < ti.alen ∧ ∃ te, T ti.elem = some te ∧ K (.val (.pointer (some ⟨g, off + n.toNat * te.size, none⟩)))
    | _ => False
  | _, _ => False

/-- A byte of a string. -/
def strA (T : TT) (t : TypeId) (x i : AV) (K : AV → Prop) : Prop :=
  match T t, x, i with
  | some ti, .val (.string s), .val (.int _ n) => ti.kind = 4 ∧ 0 ≤ n ∧ n < s.size ∧ ∀ b, s.data.toList[n.toNat]? = some b → b.toNat < 256 → K (.val (.int .u8 b.toNat))
  | _, _, _ => False
def isAggA : AV → Bool
  | .agg _ => true
  | _ => false
/-- A type assertion to a struct. -/
def assertA (T : TT) (s : TypeId) (ok : Bool) (x : AV) (K : AV → Prop) : Prop :=
  match T s with
  | none => False
  | some ti => ti.kind = 3 ∧ ti.agg = true ∧ match x with
    | .iface t y => if t = s then isAggA y = true ∧ (match ok with
        | true => K (.tup [y, B true])
        | false => K y)
      else ok = true ∧ K (.tup [.agg (ti.zero.map .val), B false])
    | .val .nilIface => ok = true ∧ K (.tup [.agg (ti.zero.map .val), B false])
    | _ => False

/-- The pieces that stay with their value. -/
def valA (T : TT) (H : Nat → AO) (F : List Fam) (op : Op) (args : List AV) (K : AV → Prop) : Prop :=
  match op, args with
  | .move _, [x] => K x
  | .assign _, [x] => K x
  | .pick _ _ _, [.val (.bool c), x, y] => brK c (K x) (K y)
  | .binOp b t _ oy _, [x, y] => match x, y with
    | .rp f i o, .rp f' i' o' => rpEq T F b t f i o f' i' o' K
    | .agg xs, .agg ys => eqS T b t xs ys K
    | x, y => binC T b t (isConst oy) x y K
  | .index t _ _, [x, i] => strA T t x i K
  | .makeInterface t _, [x] => match T t with
    | some ti => match x with
      | .ptr k off => ti.kind = 7 ∧ K (.ifp t k off)
      | x => ti.kind = 3 ∧ pureA x = true ∧ K (.iface t x)
    | none => False
  | .typeAssert _ _ s ok, [x] => assertA T s ok x K
  | .unOp u _ _, [x] => unA u x K
  | .convert src dst _, [x] => convB T H src dst x K
  | .nilCheck _, [x] => match x with
    | .ptr _ _ | .el _ _ _ | .ro _ | .rp _ _ _ => K x
    | _ => False
  | .fieldAddr t _ f, [x] => fieldAddrA T t x f K
  | .load t _, [x] => loadA T H F t x K
  | .indexAddr t _ _, [x, i] => indexA T H t x i K
  | .extract _ i, [.tup cs] => match cs[i]? with
    | some c => K c
    | none => False
  | _, _ => False
end Go.Vc
