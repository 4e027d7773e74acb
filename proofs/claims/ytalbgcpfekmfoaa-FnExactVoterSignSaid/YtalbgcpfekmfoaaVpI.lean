/-
A subject looked up that is there; one vote more, as a sorted row.
No conditions.
-/
import Derived.Test.YtalbgcpfekmfoaaVpM
namespace Go.Proofs.Ytalbgcpfekmfoaa
open Go Go.Vc Go.RowKit
set_option maxHeartbeats 1000000
set_option maxRecDepth 100000
theorem eq_key (u v : VtD) (w : World) : (Op.equal 64 (kV v) (kV u)).run Try.prog w = .ok (sameS u v) w := by
  show (Op.equalIn 10000 64 _ _).run Try.prog w = _
  rw [eq_sub]
  congr 1
  have e : ∀ x y : Int, (x == y) = decide (y = x) := fun x y => by
    rw [Bool.eq_iff_iff, beq_iff_eq, decide_eq_true_iff]
    exact ⟨Eq.symm, Eq.symm⟩
  unfold sameS
  rw [e, e]
theorem ask_some {v : VtD} (w : World) : ∀ (es : List MapEntry) (i : Nat), (∀ e ∈ es, ∃ u : VtD, e.key = kV u ∧ e.val = .int .i64 u.d) → (∃ e ∈ es, ∃ u, e.key = kV u ∧ sameS u v = true) → ∃ j x, (Instr.findAsking 64 (kV v) es i).run Try.prog w = .ok (some (j, .int .i64 x)) w
  | [], i, _, h => by
    obtain ⟨e, he, _⟩ := h
    cases he
  | e :: es, i, hall, h => by
    obtain ⟨u, hu, hx⟩ := hall e (by simp)
    have hq : (Op.equal 64 (kV v) e.key).run Try.prog w = .ok (sameS u v) w := by
      rw [hu]
      exact eq_key u v w
    rcases Bool.eq_false_or_eq_true (sameS u v) with hs | hs
    · refine ⟨i, u.d, ?_⟩
      unfold Instr.findAsking
      rw [hs] at hq
      simp only [Sem.run_bind, hq, Result.andThen, if_true, hx]
      rfl
    · have h2 : ∃ e ∈ es, ∃ u, e.key = kV u ∧ sameS u v = true := by
        obtain ⟨e', he', u', hu', hs'⟩ := h
        rcases List.mem_cons.1 he' with rfl | he'
        · rw [hu] at hu'
          have : u.r = u'.r ∧ u.a = u'.a := by
            simpa using hu'
          have q := sameS_iff.1 hs'
          have q2 : sameS u v = true := sameS_iff.2 ⟨this.1.trans q.1, this.2.trans q.2⟩
          rw [hs] at q2
          cases q2
        · exact ⟨e', he', u', hu', hs'⟩
      obtain ⟨j, x, ih⟩ := ask_some w es (i + 1) (fun e he => hall e (List.mem_cons_of_mem _ he)) h2
      refine ⟨j, x, ?_⟩
      unfold Instr.findAsking
      rw [hs] at hq
      simp only [Sem.run_bind, hq, Result.andThen, Bool.false_eq_true, if_false, ih]
theorem look_found {w : World} {b : Nat} {L : List VtD} {v : VtD} (hb : w.heap[b]? = some (.map (entA L) L.length)) (hn : ∃ u ∈ L, sameS u v = true) :
    ∃ x : Int, (Instr.lookup 60 (.map (some b)) (kV v) true).run Try.prog w = .ok (.tuple #[.int .i64 x, .bool true]) w := by
  have h1 : ∀ e ∈ entL L, ∃ u : VtD, e.key = kV u ∧ e.val = .int .i64 u.d := by
    intro e he
    obtain ⟨i, hi⟩ := List.mem_iff_getElem?.1 he
    obtain ⟨u, hu, rfl⟩ := entL_get hi
    exact ⟨u, rfl, rfl⟩
  have h2 : ∃ e ∈ entL L, ∃ u, e.key = kV u ∧ sameS u v = true := by
    obtain ⟨u, hu, hs⟩ := hn
    obtain ⟨i, hi⟩ := List.mem_iff_getElem?.1 hu
    refine ⟨entV u i, ?_, u, rfl, hs⟩
    refine List.mem_of_getElem? (i := i) ?_
    simp [entL, hi]
  obtain ⟨j, x, ha⟩ := ask_some (v := v) w (entL L) 0 h1 h2
  refine ⟨x, ?_⟩
  have hf : (Instr.findKey 64 (kV v) (entL L)).run Try.prog w = .ok (some (j, .int .i64 x)) w := by
    unfold Instr.findKey
    simp only [Sem.run_bind, run_underlying Try.underlying64, Result.andThen]
    cases hL : entL L with
    | nil =>
      rw [hL] at h2
      obtain ⟨e, he, _⟩ := h2
      cases he
    | cons e es =>
      rw [hL] at ha
      exact ha
  have hc := check_key (entA L).isEmpty v w
  unfold Instr.lookup
  simp only [Sem.run_bind, run_underlying Try.underlying60, Result.andThen, getObj, Sem.run, hb]
  have e1 : Sem.run Try.prog (pure (entA L)) w = Result.ok (entA L) w := rfl
  have e2 : Sem.run Try.prog (Instr.findKey 64 (kV v) (entA L).toList) w = Result.ok (some (j, .int .i64 x)) w := hf
  rw [e1]
  dsimp only
  rw [hc]
  dsimp only
  rw [e2]
  simp
end Go.Proofs.Ytalbgcpfekmfoaa
