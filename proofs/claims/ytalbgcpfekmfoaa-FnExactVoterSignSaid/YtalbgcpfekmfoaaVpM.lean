/-
The program's map from subjects to digests: the model's operations on it.
No conditions.
-/
import Derived.Test.YtalbgcpfekmfoaaVpB
import Derived.Maps.RangeRun
import Derived.Laws.StructEq
import Derived.RowKit
namespace Go.Proofs.Ytalbgcpfekmfoaa
open Go Go.Vc Go.RowKit
open Go.ChangeMaps (setBlock)
set_option maxHeartbeats 1000000
set_option maxRecDepth 100000
/-- A subject as the key of a map. -/
abbrev kV (v : VtD) : Value := .agg #[.int .i64 v.r, .int .i64 v.a]
def entV (v : VtD) (i : Nat) : MapEntry := { key := kV v, val := .int .i64 v.d, born := i }
def entL (L : List VtD) : List MapEntry := L.mapIdx fun i v => entV v i
abbrev entA (L : List VtD) : Array MapEntry := (entL L).toArray
theorem entL_len (L : List VtD) : (entL L).length = L.length := by simp [entL]
theorem entL_snoc (L : List VtD) (v : VtD) : entL (L ++ [v]) = entL L ++ [entV v L.length] := by
  simp [entL, List.mapIdx_append]
theorem entL_get {L : List VtD} {i : Nat} {e : MapEntry} (h : (entL L)[i]? = some e) : ∃ v, L[i]? = some v ∧ e = entV v i := by
  unfold entL at h
  rw [List.getElem?_mapIdx] at h
  obtain ⟨v, hv, rfl⟩ := Option.map_eq_some_iff.1 h
  exact ⟨v, hv, rfl⟩
theorem eq_sub (a b c d : Int) (w : World) : (Op.equalIn 10000 64 (.agg #[.int .i64 a, .int .i64 b]) (.agg #[.int .i64 c, .int .i64 d])).run Try.prog w = .ok (a == c && b == d) w := by
  have u3 := Try.underlying3
  have a3 := Try.isAgg3
  have z3 := Try.sizeOf3
  have hS : Try.prog.underlying 64 = some (.struct (Try.prog.fieldsOf 64)) := by kernel_rfl
  have hp : Try.prog.stoodInHeld 64 = false := by kernel_rfl
  rw [show (10000 : Nat) = 9999 + 1 from rfl, run_equalIn_agg w 9999 64 _ _ hS hp]
  simp only [Program.fieldsOf, Try.underlying64]
  go_simp
  by_cases h1 : a = c <;> by_cases h2 : b = d <;> simp [h1, h2]
theorem ask_none {v : VtD} (w : World) : ∀ (es : List MapEntry) (i : Nat), (∀ e ∈ es, ∃ u, e.key = kV u ∧ sameS u v = false) → (Instr.findAsking 64 (kV v) es i).run Try.prog w = .ok none w
  | [], i, _ => rfl
  | e :: es, i, h => by
    obtain ⟨u, hu, hs⟩ := h e (by simp)
    have hq : (Op.equal 64 (kV v) e.key).run Try.prog w = .ok false w := by
      rw [hu]
      show (Op.equalIn 10000 64 _ _).run Try.prog w = _
      rw [eq_sub]
      congr 1
      rw [← hs]
      have e : ∀ x y : Int, (x == y) = decide (y = x) := fun x y => by
        rw [Bool.eq_iff_iff, beq_iff_eq, decide_eq_true_iff]
        exact ⟨Eq.symm, Eq.symm⟩
      unfold sameS
      rw [e, e]
    have ih := ask_none w es (i + 1) fun e he => h e (List.mem_cons_of_mem _ he)
    unfold Instr.findAsking
    simp only [Sem.run_bind, hq, Result.andThen, Bool.false_eq_true, if_false, ih]
theorem find_none {v : VtD} {L : List VtD} (w : World) (h : ∀ u ∈ L, sameS u v = false) : (Instr.findKey 64 (kV v) (entL L)).run Try.prog w = .ok none w := by
  have hm : ∀ e ∈ entL L, ∃ u, e.key = kV u ∧ sameS u v = false := by
    intro e he
    obtain ⟨i, hi⟩ := List.mem_iff_getElem?.1 he
    obtain ⟨u, hu, rfl⟩ := entL_get hi
    exact ⟨u, rfl, h u (List.mem_of_getElem? hu)⟩
  have ha := ask_none w (entL L) 0 hm
  unfold Instr.findKey
  simp only [Sem.run_bind, run_underlying Try.underlying64, Result.andThen]
  cases hL : entL L with
  | nil => rfl
  | cons e es =>
    rw [hL] at ha
    exact ha
theorem check_int (em : Bool) (n : Nat) (a : Int) (w : World) : (Instr.checkKey em (n + 1) 3 (.int .i64 a)).run Try.prog w = .ok () w := by
  unfold Instr.checkKey
  simp only [Sem.run_bind, run_underlying Try.underlying3, Result.andThen]
  rfl
theorem check_key (em : Bool) (v : VtD) (w : World) : (Instr.checkKey em 10000 64 (kV v)).run Try.prog w = .ok () w := by
  have u3 := Try.underlying3
  have a3 := Try.isAgg3
  have z3 := Try.sizeOf3
  rw [show (10000 : Nat) = 9998 + 1 + 1 from rfl]
  unfold Instr.checkKey
  have hc := fun a w => check_int em 9998 a w
  simp only [Sem.run_bind, run_underlying Try.underlying64, Result.andThen]
  go_simp
  try simp [hc, Sem.run_bind, Result.andThen]
/-- An entry with a new key. -/
theorem upd_run {w : World} {b : Nat} {L : List VtD} {v : VtD} (hb : w.heap[b]? = some (.map (entA L) L.length)) (hn : ∀ u ∈ L, sameS u v = false) :
    (Instr.mapUpdate 60 (.map (some b)) (kV v) (.int .i64 v.d)).run Try.prog w = .ok () (setBlock w b (.map (entA (L ++ [v])) (L ++ [v]).length)) := by
  have hf := find_none w hn
  have hc := check_key false v w
  have hs : entA (L ++ [v]) = (entA L).push (entV v L.length) := by
    rw [entA, entL_snoc]
    simp
  unfold Instr.mapUpdate
  simp only [Sem.run_bind, run_underlying Try.underlying60, Result.andThen, getObj, Sem.run, hb, hc, hf, hs]
  simp [setObj, Sem.run, hb, setBlock, entV]
theorem look_run {w : World} {b : Nat} {L : List VtD} {v : VtD} (hb : w.heap[b]? = some (.map (entA L) L.length)) (hn : ∀ u ∈ L, sameS u v = false) :
    (Instr.lookup 60 (.map (some b)) (kV v) true).run Try.prog w = .ok (.tuple #[.int .i64 0, .bool false]) w := by
  have hf := find_none w hn
  have hc := check_key (entA L).isEmpty v w
  have hz : (zeroValue 3).run Try.prog w = .ok (.int .i64 0) w := by kernel_rfl
  unfold Instr.lookup
  simp only [Sem.run_bind, run_underlying Try.underlying60, Result.andThen, getObj, Sem.run, hb]
  have e1 : Sem.run Try.prog (pure (entA L)) w = Result.ok (entA L) w := rfl
  have e2 : Sem.run Try.prog (Instr.findKey 64 (kV v) (entA L).toList) w = Result.ok none w := hf
  rw [e1]
  dsimp only
  rw [hc]
  dsimp only
  rw [e2]
  simp [hz, Result.andThen]
theorem make_run (w : World) (n : Int) : (Instr.makeMap 60 (some (.int .i64 n))).run Try.prog w = .ok (.map (some w.heap.size)) (w.alloc (.map #[] 0)) := by
  unfold Instr.makeMap
  simp only [Sem.run_bind, run_underlying Try.underlying60, Result.andThen]
  rfl
theorem len_run {w : World} {b : Nat} {L : List VtD} (hb : w.heap[b]? = some (.map (entA L) L.length)) (ty : TypeId) : (Builtin.len_ #[60] ty #[.map (some b)]).run Try.prog w = .ok (.int .i64 L.length) w := by
  unfold Builtin.len_
  simp only [List.getElem?_toArray, List.getElem?_cons_zero, Sem.run_bind, run_underlying Try.underlying60, Result.andThen, getObj, Sem.run, hb]
  show Result.ok (Value.int .i64 (((entA L).size : Nat) : Int)) w = _
  have : (entA L).size = L.length := by simp [entL_len]
  rw [this]
theorem range_run {w : World} {b : Nat} {L : List VtD} (hb : w.heap[b]? = some (.map (entA L) L.length)) :
    (Instr.range 60 (.map (some b))).run Try.prog w = .ok (.pointer (some ⟨w.heap.size, 0, none⟩)) (w.alloc (.mapIter (some b) L.length #[] L.length)) := by
  unfold Instr.range
  simp only [Sem.run_bind, run_underlying Try.underlying60, Result.andThen, getObj, Sem.run, hb]
  rfl
/-- Which entries are left. -/
theorem left_mem {L : List VtD} {seen : Array Nat} {e : MapEntry} (h : e ∈ (leftOf (entA L) seen).toList) : ∃ (i : Nat) (v : VtD), L[i]? = some v ∧ e = entV v i ∧ i ∉ seen.toList := by
  unfold leftOf at h
  simp only [Array.toList_filter, List.mem_filter] at h
  obtain ⟨h1, h2⟩ := h
  obtain ⟨i, hi⟩ := List.mem_iff_getElem?.1 h1
  obtain ⟨v, hv, rfl⟩ := entL_get hi
  refine ⟨i, v, hv, rfl, fun hs => ?_⟩
  have : i ∈ seen := by simpa using hs
  simp [entV, this] at h2
theorem left_none {L : List VtD} {seen : Array Nat} (h : (leftOf (entA L) seen).size = 0) : ∀ i, i < L.length → i ∈ seen.toList := by
  intro i hi
  refine Classical.byContradiction fun hn => ?_
  have hv : L[i]? = some L[i] := List.getElem?_eq_getElem hi
  have hm : entV L[i] i ∈ (leftOf (entA L) seen).toList := by
    unfold leftOf
    simp only [Array.toList_filter, List.mem_filter]
    refine ⟨?_, ?_⟩
    · have : (entL L)[i]? = some (entV L[i] i) := by
        unfold entL
        rw [List.getElem?_mapIdx, hv]
        rfl
      exact List.mem_of_getElem? this
    · have : ¬ i ∈ seen := fun q => hn (by simpa using q)
      simp [entV, this]
  have : (leftOf (entA L) seen).toList = [] := by
    rw [← Array.length_toList] at h
    exact List.eq_nil_of_length_eq_zero h
  rw [this] at hm
  simp at hm
theorem born_lt (L : List VtD) : ∀ x ∈ (entA L).toList, x.born < L.length := by
  intro x hx
  obtain ⟨i, hi⟩ := List.mem_iff_getElem?.1 hx
  obtain ⟨v, hv, rfl⟩ := entL_get hi
  exact (List.getElem?_eq_some_iff.1 hv).1
theorem born_nodup (L : List VtD) : ((entA L).toList.map (·.born)).Nodup := by
  have : (entA L).toList.map (·.born) = List.range L.length := by
    apply List.ext_getElem?
    intro i
    simp only [entL, List.getElem?_map, List.getElem?_mapIdx]
    rcases Nat.lt_or_ge i L.length with h | h
    · rw [List.getElem?_eq_getElem h, List.getElem?_range h]
      rfl
    · rw [List.getElem?_eq_none h, List.getElem?_eq_none (by simpa using h)]
      rfl
  rw [this]
  exact List.nodup_range
end Go.Proofs.Ytalbgcpfekmfoaa
