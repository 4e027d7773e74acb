/-
Marks on slices that lie in the elements of a slice: on numbers.
No conditions.
-/
import Derived.Test.YtdljacpmoaeepaaDoorZvX
import Derived.Test.YtdljacpmoaeepaaDoorVcMH
import Derived.Test.YtdljacpmoaeepaaDoorVcMG
import Derived.WalkKit
import Derived.LoopTactic
namespace Go.Proofs.YtdljacpmoaeepaaDoor
open Go Go.Vc Go.RowKit
set_option maxHeartbeats 4000000
set_option maxRecDepth 100000
/-- The blocks of B keep their make, all else is as it was. -/
structure Shp (B : Nat → Prop) (W w : World) : Prop where
  os : w.os = W.os
  tape : w.tape = W.tape
  output : w.output = W.output
  size : w.heap.size = W.heap.size
  same : ∀ b, ¬ B b → w.heap[b]? = W.heap[b]?
  shape : ∀ (b : Nat) (vs : Array Value) (T : TypeId) (fr : Nat × Nat), W.heap[b]? = some (Obj.cells vs T fr) → ∃ vs' : Array Value, w.heap[b]? = some (Obj.cells vs' T fr) ∧ vs'.size = vs.size
theorem Shp.refl (B : Nat → Prop) (W : World) : Shp B W W := ⟨rfl, rfl, rfl, rfl, fun _ _ => rfl, fun _ vs _ _ h => ⟨vs, h, rfl⟩⟩
theorem Shp.trans {B : Nat → Prop} {W w w' : World} (h : Shp B W w) (k : Shp B w w') : Shp B W w' :=
  ⟨k.os.trans h.os, k.tape.trans h.tape, k.output.trans h.output, k.size.trans h.size, fun b hb => (k.same b hb).trans (h.same b hb), fun b vs T fr hb => by
    obtain ⟨vs1, h1, h2⟩ := h.shape b vs T fr hb
    obtain ⟨vs2, h3, h4⟩ := k.shape b vs1 T fr h1
    exact ⟨vs2, h3, h4.trans h2⟩⟩
theorem Shp.mono {B B' : Nat → Prop} {W w : World} (h : Shp B W w) (hb : ∀ b, B b → B' b) : Shp B' W w := ⟨h.os, h.tape, h.output, h.size, fun b hn => h.same b fun hB => hn (hb b hB), h.shape⟩
theorem heap_setCell (w : World) (b off : Nat) (v : Value) (x : Nat) : (w.setCell ⟨b, off, none⟩ v).heap[x]? = if b = x then (w.heap[x]?).map fun
      | .cells c elem frozen => .cells (c.setIfInBounds off v) elem frozen
      | o => o else w.heap[x]? := by
  simp only [World.setCell, Array.getElem?_modify]
  by_cases e : b = x
  · rw [if_pos e, if_pos e]
    cases w.heap[x]? with
    | none => rfl
    | some o => cases o <;> simp
  · rw [if_neg e, if_neg e]
theorem Shp.setCell {B : Nat → Prop} {W w : World} (h : Shp B W w) {b : Nat} (hb : B b) (off : Nat) (v : Value) : Shp B W (w.setCell ⟨b, off, none⟩ v) := by
  refine ⟨h.os, h.tape, h.output, by simpa [World.setCell] using h.size, fun x hx => ?_, fun x vs T fr hx => ?_⟩
  · rw [heap_setCell, if_neg (by rintro rfl; exact hx hb)]
    exact h.same x hx
  · obtain ⟨vs1, h1, h2⟩ := h.shape x vs T fr hx
    rw [heap_setCell]
    split
    · rw [h1]
      exact ⟨_, rfl, by simpa using h2⟩
    · exact ⟨vs1, h1, h2⟩
/-- A slice of m elements in a block of B that may be written. -/
def SlOk (B : Nat → Prop) (W : World) (v : Value) (m : Nat) : Prop := ∃ (a : Option Addr) (cap : Nat), v = .slice a m cap ∧ (m = 0 ∨ ∃ (b off : Nat) (vs : Array Value) (T : TypeId), a = some ⟨b, off, none⟩ ∧ B b ∧ W.heap[b]? = some (.cells vs T (0, 0)) ∧ off + m ≤ vs.size)
theorem SlOk.move {B B' : Nat → Prop} {W w : World} {v : Value} {m : Nat} (h : SlOk B W v m) (k : Shp B' W w) : SlOk B w v m := by
  obtain ⟨a, cap, rfl, h⟩ := h
  refine ⟨a, cap, rfl, h.imp id ?_⟩
  rintro ⟨b, off, vs, T, rfl, hB, h1, h2⟩
  obtain ⟨vs', h3, h4⟩ := k.shape b vs T _ h1
  exact ⟨b, off, vs', T, rfl, hB, h3, by omega⟩
theorem cell_there {w : World} {b : Nat} {vs : Array Value} {T : TypeId} (h : w.heap[b]? = some (.cells vs T (0, 0))) {i : Nat} (hi : i < vs.size) : (∃ u, w.cell? ⟨b, i, none⟩ = some u) ∧ w.frozen? ⟨b, i, none⟩ = false := by
  refine ⟨⟨vs[i], ?_⟩, ?_⟩
  · simp [World.cell?, h, hi]
  · simp [World.frozen?, h]
theorem markI_some {W : World} {b off m cap : Nat} {vs0 : Array Value} {T0 : TypeId} (hb : W.heap[b]? = some (.cells vs0 T0 (0, 0))) (hm : off + m ≤ vs0.size) (k : Int) (h0 : 0 ≤ k) (h1 : k ≤ 4000000000000000000) (hm2 : m < 2000000) :
    Calls Tryd.prog 27 #[.slice (some ⟨b, off, none⟩) m cap, .int .i64 k] W fun e w' => e = .returned (.int .i64 (k + m)) ∧ Shp (· = b) W w' := by
  go_enter Tryd.func27, Tryd.ntmps27
  go_wp2
  go_loopw [1, 5] (fun kv i wr => ∃ j : Nat, j ≤ m ∧ kv = .int .i64 (k + j) ∧ i = .int .i64 j ∧ Shp (· = b) W wr) (fun _ i _ => m - (intOf i).toNat)
  case atStart => exact ⟨0, Nat.zero_le _, by simp, rfl, Shp.refl _ _⟩
  case round =>
    obtain ⟨j, hj, rfl, rfl, hS⟩ := hrel
    obtain ⟨vs1, hb1, hs1⟩ := hS.shape b vs0 T0 _ hb
    have hset := fun v => hS.setCell (b := b) rfl (off + j) v
    have q1 : k + j + 1 ≤ 9223372036854775807 := by omega
    have q2 : -9223372036854775808 ≤ k + j + 1 := by omega
    by_cases hlt : j < m
    · obtain ⟨⟨u, hu⟩, hfz⟩ := cell_there hb1 (i := off + j) (by omega)
      clear hb1 hb hs1
      go_wp2
      case roundEnd =>
        refine ⟨⟨j + 1, hlt, ?_, ?_, hset _⟩, ?_⟩
        · simp; omega
        · simp
        · simp [intOf]; omega
      all_goals (exfalso; omega)
    · obtain rfl : j = m := by omega
      clear hb1 hb hs1 hset
      go_wp2
      go_ret
      exact ⟨rfl, hS⟩
theorem markI_none {W : World} {a : Option Addr} {cap : Nat} (k : Int) : Calls Tryd.prog 27 #[.slice a 0 cap, .int .i64 k] W fun e w' => e = .returned (.int .i64 k) ∧ w' = W := by
  go_enter Tryd.func27, Tryd.ntmps27
  go_wp2
  go_loopw [1, 5] (fun kv i wr => kv = .int .i64 k ∧ i = .int .i64 0 ∧ wr = W) (fun _ _ _ => 0)
  case atStart => exact ⟨rfl, rfl, rfl⟩
  case round =>
    obtain ⟨rfl, rfl, rfl⟩ := hrel
    go_wp2
    go_ret
    exact ⟨rfl, rfl⟩
/-- Marks in a slice of numbers. -/
theorem markI_calls {B : Nat → Prop} {W : World} {v : Value} {m : Nat} (h : SlOk B W v m) (k : Int) (h0 : 0 ≤ k) (h1 : k ≤ 4000000000000000000) (hm2 : m < 2000000) :
    Calls Tryd.prog 27 #[v, .int .i64 k] W fun e w' => e = .returned (.int .i64 (k + m)) ∧ Shp B W w' := by
  obtain ⟨a, cap, rfl, h⟩ := h
  by_cases hm : m = 0
  · subst hm
    refine (markI_none k).mono ?_
    rintro e w' ⟨rfl, rfl⟩
    exact ⟨by simp, Shp.refl _ _⟩
  · obtain ⟨b, off, vs, T, rfl, hB, hb, hs⟩ := h.resolve_left hm
    refine (markI_some hb hs k h0 h1 hm2).mono ?_
    rintro e w' ⟨rfl, hS⟩
    exact ⟨rfl, hS.mono fun b' e => by subst e; exact hB⟩
theorem ints_ok {c : Ctx} {p : List Int} {v : Value} (h : RepV c (.ints p) v) (hok : ∀ b, c.ok b → unfr c.w b) : SlOk (fun b => c.ok b ∧ ∃ vs T fr, c.w.heap[b]? = some (.cells vs T fr)) c.w v p.length := by
  obtain ⟨a, cap, rfl, _, hr⟩ := h.ints_slice
  refine ⟨a, cap, rfl, ?_⟩
  have hl := icells_length p
  have hg : ∀ (i : Nat), i < p.length → ∃ e, (icells p)[i]? = some e ∧ e.length = 1 := fun i hi => ⟨[I p[i]], icells_get.2 ⟨_, List.getElem?_eq_getElem hi, rfl⟩, rfl⟩
  revert hl hg hr
  generalize icells p = cs
  generalize p.length = m
  intro hr hl hg
  by_cases hm : m = 0
  · exact .inl hm
  · right
    generalize hv : Value.slice a m cap = v at hr
    cases hr with
    | sl0 => cases hv; exact absurd rfl hm
    | sl _ _ b off cap' vf hb hcap hl' hc hh =>
      cases hv
      obtain ⟨e, he, he1⟩ := hg (cs.length - 1) (by omega)
      obtain ⟨y, hy⟩ : ∃ y, e[0]? = some y := ⟨_, List.getElem?_eq_getElem (by omega)⟩
      have h1 := (hc _ e 0 y he hy).1
      obtain ⟨o, h2, h3⟩ := cells_of_cell h1
      cases o with
      | cells vs T fr =>
        have h2 : c.w.heap[b]? = some (.cells vs T fr) := h2
        have hfr := hok b hb vs T fr h2
        subst hfr
        refine ⟨b, off, vs, T, rfl, ⟨hb, vs, T, _, h2⟩, h2, ?_⟩
        rw [cell_of_row c.w b _ vs T (0, 0) h2] at h1
        have := (Array.getElem?_eq_some_iff.1 h1).1
        omega
      | _ => cases h3
end Go.Proofs.YtdljacpmoaeepaaDoor
