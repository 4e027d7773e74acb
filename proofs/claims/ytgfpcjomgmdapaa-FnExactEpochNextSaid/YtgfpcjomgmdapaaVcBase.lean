/-
The abstract values and objects of the condition generator, what it means that a value of the model is described by one of them, and how such a description is carried from one world to the next.
No conditions.
-/
import Derived.WalkKit
namespace Go.Vc

/-- What is known of a value. -/
inductive AV where
  | any
  | val (v : Value)
  | agg (cs : List AV)
  | tup (cs : List AV)
  | ints (l : List Int)
  | bytes (l : List UInt8)
  | sl (sz : Nat) (l : List (List AV))
  | ro (cs : List AV)
  | ptr (k off : Nat)
  | el (k i off : Nat)
  | own (k : Nat)
  | sub (k lo hi : Nat)
  | win (k off n : Nat)
  | clo (f k : Nat)
  | rp (f i off : Nat)
  | iface (t : TypeId) (x : AV)
  deriving Inhabited

/-- What is known of a block that the running call owns. -/
inductive AO where
  | dead
  | cells (cs : List AV)
  | iarr (l : List Int)
  | arr (sz : Nat) (l : List (List AV))
  deriving Inhabited

abbrev I (n : Int) : AV := .val (.int .i64 n)
abbrev B (b : Bool) : AV := .val (.bool b)
def icells (l : List Int) : List (List AV) := l.map fun n => [.val (.int .i64 n)]

/-- No reference to an owned block: a cell's value. -/
def pureB : AV → Bool
  | .any | .val _ | .ints _ | .bytes _ | .sl _ _ | .ro _ | .rp _ _ _ | .iface _ _ => true
  | _ => false
/-- The same for a whole value. -/
def pureA : AV → Bool
  | .agg cs => cs.all pureB
  | a => pureB a

/-- Size of an element and number of elements. -/
def AO.info : AO → Option (Nat × Nat)
  | .iarr l => some (1, l.length)
  | .arr sz l => some (sz, l.length)
  | _ => none

/-- Where the objects of the families lie. -/
structure FA where
  at_ : Nat → Nat → Nat
  n : Nat

structure Ctx where
  w : World
  ok : Nat → Prop
  Z : Nat → Prop
  ρ : Nat → Nat
  A : FA
  H : Nat → AO

/-- The block of object k has room for 'n' cells. -/
def Ctx.room (c : Ctx) (k n : Nat) : Prop := ∃ vs T fr, c.w.heap[c.ρ k]? = some (.cells vs T fr) ∧ n ≤ vs.size

inductive RepV (c : Ctx) : AV → Value → Prop
  | any (v : Value) : RepV c .any v
  | val (v : Value) : RepV c (.val v) v
  | agg (cs : List AV) (vs : List Value) (hl : vs.length = cs.length) (h1 : ∀ v ∈ vs, v.oneCell' = true)
      (h : ∀ (i : Nat) a v, cs[i]? = some a → vs[i]? = some v → RepV c a v) : RepV c (.agg cs) (.agg vs.toArray)
  | tup (cs : List AV) (vs : List Value) (hl : vs.length = cs.length) (hn : ∀ v ∈ vs, ∀ us, v ≠ .tuple us)
      (h : ∀ (i : Nat) a v, cs[i]? = some a → vs[i]? = some v → RepV c a v) : RepV c (.tup cs) (.tuple vs.toArray)
  | sl0 (sz : Nat) (a : Option Addr) (cap : Nat) : RepV c (.sl sz []) (.slice a 0 cap)
  | sl (sz : Nat) (l : List (List AV)) (b off cap : Nat) (vf : Nat → Nat → Value) (hok : c.ok b) (hcap : l.length ≤ cap)
      (hl : ∀ (i : Nat) e, l[i]? = some e → e.length = sz)
      (hc : ∀ (i : Nat) e (j : Nat) a, l[i]? = some e → e[j]? = some a → c.w.cell? ⟨b, off + i * sz + j, none⟩ = some (vf i j) ∧ pureB a = true ∧ (vf i j).oneCell' = true)
      (h : ∀ (i : Nat) e (j : Nat) a, l[i]? = some e → e[j]? = some a → RepV c a (vf i j)) : RepV c (.sl sz l) (.slice (some ⟨b, off, none⟩) l.length cap)
  | ints (l : List Int) (v : Value) (h : RepV c (.sl 1 (icells l)) v) : RepV c (.ints l) v
  | bytes0 (a : Option Addr) (cap : Nat) : RepV c (.bytes []) (.slice a 0 cap)
  | bytes (l : List UInt8) (b off cap : Nat) (hz : c.Z b) (hcap : l.length ≤ cap)
      (hc : ∀ (i : Nat) x, l[i]? = some x → c.w.cell? ⟨b, off + i, none⟩ = some (.int .u8 x.toNat)) : RepV c (.bytes l) (.slice (some ⟨b, off, none⟩) l.length cap)
  | ro (cs : List AV) (b off : Nat) (vf : Nat → Value) (hok : c.ok b ∨ c.Z b)
      (hc : ∀ (j : Nat) a, cs[j]? = some a → c.w.cell? ⟨b, off + j, none⟩ = some (vf j) ∧ pureB a = true ∧ (vf j).oneCell' = true)
      (h : ∀ (j : Nat) a, cs[j]? = some a → RepV c a (vf j)) : RepV c (.ro cs) (.pointer (some ⟨b, off, none⟩))
  | ptr (k off : Nat) (cs : List AV) (hk : c.H k = .cells cs) : RepV c (.ptr k off) (.pointer (some ⟨c.ρ k, off, none⟩))
  | el (k i off sz n : Nat) (hk : (c.H k).info = some (sz, n)) (hi : i < n) : RepV c (.el k i off) (.pointer (some ⟨c.ρ k, i * sz + off, none⟩))
  | own (k sz n cap : Nat) (hk : (c.H k).info = some (sz, n)) (hcap : n ≤ cap ∧ cap ≤ 9223372036854775807) (hr : c.room k (cap * sz)) : RepV c (.own k) (.slice (some ⟨c.ρ k, 0, none⟩) n cap)
  | sub (k sz n lo hi o cap : Nat) (hk : (c.H k).info = some (sz, n)) (h1 : lo ≤ hi) (h2 : hi ≤ n) (hcap : hi - lo ≤ cap ∧ cap ≤ 9223372036854775807) (hr : c.room k ((lo + cap) * sz))
      (ho : o = lo * sz ∨ (cap = 0 ∧ hi = lo ∧ 0 < lo)) : RepV c (.sub k lo hi) (.slice (some ⟨c.ρ k, o, none⟩) (hi - lo) cap)
  | win (k off n cap : Nat) (cs : List AV) (hk : c.H k = .cells cs) (hcap : n ≤ cap) (hr : c.room k (off + cap)) : RepV c (.win k off n) (.slice (some ⟨c.ρ k, off, none⟩) n cap)
  | clo (f k : Nat) (cs : List AV) (hk : c.H k = .cells cs) : RepV c (.clo f k) (.func (.func f) #[] #[.pointer (some ⟨c.ρ k, 0, none⟩)])
  | rp (f i off : Nat) (hf : f < c.A.n) : RepV c (.rp f i off) (.pointer (some ⟨c.A.at_ f i, off, none⟩))
  | iface (t : TypeId) (x : AV) (v : Value) (hp : pureA x = true) (h : RepV c x v) : RepV c (.iface t x) (.iface t v)

/-- What is known of object k stands in its block. -/
def RepO (c : Ctx) (k : Nat) : AO → Prop
  | .dead => True
  | .cells cs => ∃ vs T, c.w.heap[c.ρ k]? = some (.cells vs T (0, 0)) ∧ vs.size = cs.length ∧ (∀ v ∈ vs.toList, v.oneCell' = true) ∧ ∀ (j : Nat) a v, cs[j]? = some a → vs[j]? = some v → RepV c a v
  | .iarr l => ∃ vs T, c.w.heap[c.ρ k]? = some (.cells vs T (0, 0)) ∧ l.length * 1 ≤ vs.size ∧ (∀ v ∈ vs.toList, v.oneCell' = true) ∧
      ∀ (i : Nat) e (j : Nat) a v, (icells l)[i]? = some e → e[j]? = some a → vs[i * 1 + j]? = some v → RepV c a v ∧ pureB a = true
  | .arr sz l => ∃ vs T, c.w.heap[c.ρ k]? = some (.cells vs T (0, 0)) ∧ l.length * sz ≤ vs.size ∧ (∀ v ∈ vs.toList, v.oneCell' = true) ∧ (∀ (i : Nat) e, l[i]? = some e → e.length = sz) ∧
      ∀ (i : Nat) e (j : Nat) a v, l[i]? = some e → e[j]? = some a → vs[i * sz + j]? = some v → RepV c a v ∧ pureB a = true

/-- A reference into an owned block. -/
def isRef : AV → Bool
  | .ptr _ _ | .el _ _ _ | .own _ | .sub _ _ _ | .win _ _ _ | .clo _ _ => true
  | _ => false
/-- Every reference of a value turned by f. -/
def mapC (f : AV → AV) (a : AV) : AV := if isRef a then f a else a
def mapA (f : AV → AV) : AV → AV
  | .agg cs => .agg (cs.map (mapC f))
  | a => mapC f a
def mapR (f : AV → AV) : AV → AV
  | .tup cs => .tup (cs.map (mapA f))
  | a => mapA f a
/-- The object that a reference is to. -/
def refOf : AV → Option Nat
  | .ptr k _ | .el k _ _ | .own k | .sub k _ _ | .win k _ _ | .clo _ k => some k
  | _ => none

/-- What was readable in c reads the same in c'. -/
structure Keeps (c c' : Ctx) : Prop where
  ok : ∀ b, c.ok b → c'.ok b
  okw : ∀ b, c.ok b → c'.w.heap[b]? = c.w.heap[b]?
  Z : ∀ b, c.Z b → c'.Z b
  Zw : ∀ b, c.Z b → c'.w.heap[b]? = c.w.heap[b]?
  A : c.A.n ≤ c'.A.n ∧ ∀ f, f < c.A.n → c'.A.at_ f = c.A.at_ f

theorem pureA_of_pureB {a : AV} (h : pureB a = true) : pureA a = true := by cases a <;> simp_all [pureA, pureB]

theorem RepV.pure_move {c c' : Ctx} (hk : Keeps c c') {a : AV} {v : Value} (h : RepV c a v) : pureA a = true → RepV c' a v := by
  induction h with
  | any v => exact fun _ => .any v
  | val v => exact fun _ => .val v
  | agg cs vs hl h1 h ih =>
    intro hp
    refine .agg cs vs hl h1 fun i a v ha hv => ih i a v ha hv (pureA_of_pureB ?_)
    simp only [pureA, List.all_eq_true] at hp
    exact hp a (List.mem_of_getElem? ha)
  | tup cs vs hl hn h ih => intro hp; simp [pureA, pureB] at hp
  | sl0 sz a cap => exact fun _ => .sl0 sz a cap
  | sl sz l b off cap vf hok hcap hl hc h ih =>
    intro _
    refine .sl sz l b off cap vf (hk.ok b hok) hcap hl (fun i e j a hi hj => ?_) (fun i e j a hi hj => ih i e j a hi hj (pureA_of_pureB (hc i e j a hi hj).2.1))
    have := hc i e j a hi hj
    refine ⟨?_, this.2⟩
    rw [← this.1]
    exact World.cell?_of_block (hk.okw b hok)
  | ints l v h ih => exact fun _ => .ints l v (ih rfl)
  | bytes0 a cap => exact fun _ => .bytes0 a cap
  | bytes l b off cap hz hcap hc =>
    intro _
    refine .bytes l b off cap (hk.Z b hz) hcap fun i x hi => ?_
    rw [← hc i x hi]
    exact World.cell?_of_block (hk.Zw b hz)
  | ro cs b off vf hok hc h ih =>
    intro _
    refine .ro cs b off vf (hok.imp (hk.ok b) (hk.Z b)) (fun j a hj => ?_) (fun j a hj => ih j a hj (pureA_of_pureB (hc j a hj).2.1))
    have := hc j a hj
    refine ⟨?_, this.2⟩
    rw [← this.1]
    exact World.cell?_of_block (hok.elim (hk.okw b) (hk.Zw b))
  | ptr k off cs hk => intro hp; simp [pureA, pureB] at hp
  | el k i off sz n hk hi => intro hp; simp [pureA, pureB] at hp
  | own k sz n cap hk hcap hr => intro hp; simp [pureA, pureB] at hp
  | sub k sz n lo hi o cap hk h1 h2 hcap hr ho => intro hp; simp [pureA, pureB] at hp
  | win k off n cap cs hk hcap hr => intro hp; simp [pureA, pureB] at hp
  | clo f k cs hk => intro hp; simp [pureA, pureB] at hp
  | rp f i off hf => intro _; rw [← hk.A.2 f hf]; exact .rp f i off (Nat.lt_of_lt_of_le hf hk.A.1)
  | iface t x v hp h ih => exact fun _ => .iface t x v hp (ih hp)

theorem RepV.not_agg {c : Ctx} {cs : List AV} {v : Value} (h : RepV c (.agg cs) v) (h1 : v.oneCell' = true) : False := by cases h; simp [Value.oneCell'] at h1
theorem RepV.not_tup {c : Ctx} {cs : List AV} {v : Value} (h : RepV c (.tup cs) v) (h1 : ∀ us, v ≠ .tuple us) : False := by cases h; exact h1 _ rfl
theorem oneCell_not_tuple {v : Value} (h1 : v.oneCell' = true) : ∀ us, v ≠ .tuple us := by rintro us rfl; simp [Value.oneCell'] at h1
theorem mapC_move {c c' : Ctx} (hk : Keeps c c') (f : AV → AV) (hf : ∀ r v, isRef r = true → RepV c r v → RepV c' (f r) v) {a : AV} {v : Value} (h1 : v.oneCell' = true) (h : RepV c a v) : RepV c' (mapC f a) v := by
  unfold mapC
  split
  · exact hf _ _ ‹_› h
  · cases a with
    | agg cs => exact (h.not_agg h1).elim
    | tup cs => exact (h.not_tup (oneCell_not_tuple h1)).elim
    | _ => first | exact h.pure_move hk rfl | (rename_i hr; exact absurd rfl hr)
theorem mapA_move {c c' : Ctx} (hk : Keeps c c') (f : AV → AV) (hf : ∀ r v, isRef r = true → RepV c r v → RepV c' (f r) v) {a : AV} {v : Value} (hn : ∀ us, v ≠ .tuple us) (h : RepV c a v) : RepV c' (mapA f a) v := by
  cases a with
  | agg cs =>
    cases h with
    | agg cs vs hl h1 h =>
      refine .agg _ vs (by simpa using hl) h1 fun i a v ha hv => ?_
      rw [List.getElem?_map] at ha
      obtain ⟨a0, ha0, rfl⟩ := Option.map_eq_some_iff.1 ha
      exact mapC_move hk f hf (h1 v (List.mem_of_getElem? hv)) (h i a0 v ha0 hv)
  | tup cs => exact (h.not_tup hn).elim
  | _ => first | exact h.pure_move hk rfl | exact hf _ _ rfl h
/-- The whole carrying: what is no reference stays, a reference is turned by f. -/
theorem RepV.move {c c' : Ctx} (hk : Keeps c c') (f : AV → AV) (hf : ∀ r v, isRef r = true → RepV c r v → RepV c' (f r) v) {a : AV} {v : Value} (h : RepV c a v) : RepV c' (mapR f a) v := by
  cases a with
  | tup cs =>
    cases h with
    | tup cs vs hl hn h =>
      refine .tup _ vs (by simpa using hl) hn fun i a v ha hv => ?_
      rw [List.getElem?_map] at ha
      obtain ⟨a0, ha0, rfl⟩ := Option.map_eq_some_iff.1 ha
      exact mapA_move hk f hf (hn v (List.mem_of_getElem? hv)) (h i a0 v ha0 hv)
  | agg cs => exact mapA_move hk f hf (by cases h; intro us e; cases e) h
  | _ => first | exact h.pure_move hk rfl | exact hf _ _ rfl h

theorem mapC_id {f : AV → AV} (hf : ∀ r, f r = r) (a : AV) : mapC f a = a := by unfold mapC; split <;> simp [hf]
theorem mapA_id {f : AV → AV} (hf : ∀ r, f r = r) (a : AV) : mapA f a = a := by
  cases a with
  | agg cs =>
    have : mapC f = id := funext (mapC_id hf)
    simp [mapA, this]
  | _ => simp [mapA, mapC_id hf]
theorem mapR_id {f : AV → AV} (hf : ∀ r, f r = r) (a : AV) : mapR f a = a := by
  cases a with
  | tup cs =>
    have : mapA f = id := funext (mapA_id hf)
    simp [mapR, this]
  | _ => simp [mapR, mapA_id hf]

/-- Nothing is turned: every reference reads as it did. -/
theorem RepV.stay {c c' : Ctx} (hk : Keeps c c') (hf : ∀ r v, isRef r = true → RepV c r v → RepV c' r v) {a : AV} {v : Value} (h : RepV c a v) : RepV c' a v := by
  induction h with
  | any v => exact .any v
  | val v => exact .val v
  | agg cs vs hl h1 h ih => exact .agg cs vs hl h1 ih
  | tup cs vs hl hn h ih => exact .tup cs vs hl hn ih
  | sl0 sz a cap => exact .sl0 sz a cap
  | sl sz l b off cap vf hok hcap hl hc h ih => exact (RepV.sl sz l b off cap vf hok hcap hl hc h).pure_move hk rfl
  | ints l v h ih => exact .ints l v ih
  | bytes0 a cap => exact .bytes0 a cap
  | bytes l b off cap hz hcap hc => exact (RepV.bytes l b off cap hz hcap hc).pure_move hk rfl
  | ro cs b off vf hok hc h ih => exact (RepV.ro cs b off vf hok hc h).pure_move hk rfl
  | ptr k off cs h => exact hf _ _ rfl (.ptr k off cs h)
  | el k i off sz n hk hi => exact hf _ _ rfl (.el k i off sz n hk hi)
  | own k sz n cap hk hcap hr => exact hf _ _ rfl (.own k sz n cap hk hcap hr)
  | sub k sz n lo hi o cap hk h1 h2 hcap hr ho => exact hf _ _ rfl (.sub k sz n lo hi o cap hk h1 h2 hcap hr ho)
  | win k off n cap cs hk hcap hr => exact hf _ _ rfl (.win k off n cap cs hk hcap hr)
  | clo f k cs hk => exact hf _ _ rfl (.clo f k cs hk)
  | rp f i off hf => exact (RepV.rp f i off hf).pure_move hk rfl
  | iface t x v hp h ih => exact .iface t x v hp ih

/-- A row of cells described one by one. -/
def RepL (c : Ctx) (cs : List AV) (vs : List Value) : Prop :=
  vs.length = cs.length ∧ (∀ v ∈ vs, v.oneCell' = true) ∧ ∀ (i : Nat) a v, cs[i]? = some a → vs[i]? = some v → RepV c a v

/-- The cells of a value that can be stored. -/
def cellsOf : AV → Option (List AV)
  | .agg cs => some cs
  | .any | .tup _ => none
  | .val v => if v.oneCell' then some [.val v] else none
  | a => some [a]

theorem RepL.one {c : Ctx} {a : AV} {v : Value} (h : RepV c a v) (h1 : v.oneCell' = true) : RepL c [a] [v] := by
  refine ⟨rfl, by simpa using h1, fun i x y hx hy => ?_⟩
  cases i with
  | zero => simp at hx hy; subst hx hy; exact h
  | succ i => simp at hx

theorem cellsOf_rep {c : Ctx} {a : AV} {cs : List AV} {v : Value} (hc : cellsOf a = some cs) (h : RepV c a v) : RepL c cs v.cells.toList := by
  have key : ∀ {a : AV} {v : Value}, RepV c a v → v.oneCell' = true → cs = [a] → RepL c cs v.cells.toList := by
    intro a v h h1 e
    subst e
    have : v.cells = #[v] := by cases v <;> simp_all [Value.oneCell', Value.cells]
    rw [this]
    exact .one h h1
  cases h with
  | any v => simp [cellsOf] at hc
  | val v =>
    simp only [cellsOf] at hc
    split at hc
    · rename_i h1
      exact key (.val v) h1 (by simpa using hc.symm)
    · cases hc
  | agg cs' vs hl h1 h =>
    simp only [cellsOf, Option.some.injEq] at hc
    subst hc
    exact ⟨hl, h1, h⟩
  | tup cs vs hl hn h => simp [cellsOf] at hc
  | sl0 sz a cap => exact key (.sl0 sz a cap) rfl (by simpa [cellsOf] using hc.symm)
  | sl sz l b off cap vf hok hcap hl hc' h => exact key (.sl sz l b off cap vf hok hcap hl hc' h) rfl (by simpa [cellsOf] using hc.symm)
  | ints l v h =>
    refine key (.ints l v h) ?_ (by simpa [cellsOf] using hc.symm)
    revert h
    generalize icells l = x
    intro h
    cases h <;> rfl
  | bytes0 a cap => exact key (.bytes0 a cap) rfl (by simpa [cellsOf] using hc.symm)
  | bytes l b off cap hz hcap hc' => exact key (.bytes l b off cap hz hcap hc') rfl (by simpa [cellsOf] using hc.symm)
  | ro cs' b off vf hok hc' h => exact key (.ro cs' b off vf hok hc' h) rfl (by simpa [cellsOf] using hc.symm)
  | ptr k off cs' hk => exact key (.ptr k off cs' hk) rfl (by simpa [cellsOf] using hc.symm)
  | el k i off sz n hk hi => exact key (.el k i off sz n hk hi) rfl (by simpa [cellsOf] using hc.symm)
  | own k sz n cap hk hcap hr => exact key (.own k sz n cap hk hcap hr) rfl (by simpa [cellsOf] using hc.symm)
  | sub k sz n lo hi o cap hk h1 h2 hcap hr ho => exact key (.sub k sz n lo hi o cap hk h1 h2 hcap hr ho) rfl (by simpa [cellsOf] using hc.symm)
  | win k off n cap cs' hk hcap hr => exact key (.win k off n cap cs' hk hcap hr) rfl (by simpa [cellsOf] using hc.symm)
  | clo f k cs' hk => exact key (.clo f k cs' hk) rfl (by simpa [cellsOf] using hc.symm)
  | rp f i off hf => exact key (.rp f i off hf) rfl (by simpa [cellsOf] using hc.symm)
  | iface t x v hp h => exact key (.iface t x v hp h) rfl (by simpa [cellsOf] using hc.symm)

theorem RepL.agg {c : Ctx} {cs : List AV} {vs : List Value} (h : RepL c cs vs) : RepV c (.agg cs) (.agg vs.toArray) := .agg cs vs h.1 h.2.1 h.2.2
theorem RepL.get {c : Ctx} {cs : List AV} {vs : List Value} (h : RepL c cs vs) {i : Nat} {a : AV} (hi : cs[i]? = some a) : ∃ v, vs[i]? = some v ∧ v.oneCell' = true ∧ RepV c a v := by
  have hlt : i < cs.length := (List.getElem?_eq_some_iff.1 hi).1
  have hl : i < vs.length := by rw [h.1]; exact hlt
  exact ⟨vs[i], List.getElem?_eq_getElem hl, h.2.1 _ (List.getElem_mem hl), h.2.2 i a _ hi (List.getElem?_eq_getElem hl)⟩
theorem RepL.nil {c : Ctx} : RepL c [] [] := ⟨rfl, by simp, by simp⟩
theorem RepL.append {c : Ctx} {cs ds : List AV} {vs us : List Value} (h : RepL c cs vs) (k : RepL c ds us) : RepL c (cs ++ ds) (vs ++ us) := by
  refine ⟨by simp [h.1, k.1], fun v hv => ?_, fun i a v ha hv => ?_⟩
  · rcases List.mem_append.1 hv with hv | hv
    · exact h.2.1 v hv
    · exact k.2.1 v hv
  · by_cases hi : i < cs.length
    · rw [List.getElem?_append_left hi] at ha
      rw [List.getElem?_append_left (by rw [h.1]; exact hi)] at hv
      exact h.2.2 i a v ha hv
    · rw [List.getElem?_append_right (by omega)] at ha
      rw [List.getElem?_append_right (by rw [h.1]; omega), h.1] at hv
      exact k.2.2 _ a v ha hv
theorem RepL.take {c : Ctx} {cs : List AV} {vs : List Value} (h : RepL c cs vs) (n : Nat) : RepL c (cs.take n) (vs.take n) := by
  refine ⟨by simp [h.1], fun v hv => h.2.1 v (List.mem_of_mem_take hv), fun i a v ha hv => ?_⟩
  rw [List.getElem?_take] at ha hv
  split at ha
  · rename_i hi; rw [if_pos hi] at hv; exact h.2.2 i a v ha hv
  · cases ha
theorem RepL.drop {c : Ctx} {cs : List AV} {vs : List Value} (h : RepL c cs vs) (n : Nat) : RepL c (cs.drop n) (vs.drop n) := by
  refine ⟨by simp [h.1], fun v hv => h.2.1 v (List.mem_of_mem_drop hv), fun i a v ha hv => ?_⟩
  rw [List.getElem?_drop] at ha hv
  exact h.2.2 _ a v ha hv
theorem RepL.mono {c c' : Ctx} {cs : List AV} {vs : List Value} (h : RepL c cs vs) (hm : ∀ a v, a ∈ cs → RepV c a v → RepV c' a v) : RepL c' cs vs :=
  ⟨h.1, h.2.1, fun i a v ha hv => hm a v (List.mem_of_getElem? ha) (h.2.2 i a v ha hv)⟩
theorem repO_cells {c : Ctx} {k : Nat} {cs : List AV} : RepO c k (.cells cs) ↔ ∃ vs T, c.w.heap[c.ρ k]? = some (.cells vs T (0, 0)) ∧ RepL c cs vs.toList := by
  constructor
  · rintro ⟨vs, T, h1, h2, h3, h4⟩
    exact ⟨vs, T, h1, by simpa using h2, h3, fun i a v ha hv => h4 i a v ha (by simpa using hv)⟩
  · rintro ⟨vs, T, h1, h2, h3, h4⟩
    exact ⟨vs, T, h1, by simpa using h2, h3, fun i a v ha hv => h4 i a v ha (by simpa using hv)⟩
end Go.Vc
