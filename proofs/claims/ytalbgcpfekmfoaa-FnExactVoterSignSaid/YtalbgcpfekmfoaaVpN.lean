/-
What a vote is about; the map of a voter's digests, by hand.
No conditions.
-/
import Derived.Test.YtalbgcpfekmfoaaVpM
import Derived.Deep.RegionWith
import Derived.Maps.OwnOps
import Derived.Maps.RangeWalk
import Derived.WalkSpells
namespace Go.Proofs.Ytalbgcpfekmfoaa
open Go Go.Vc Go.RowKit
open Go.ChangeMaps (setBlock heap_setBlock_same)
set_option maxHeartbeats 4000000
set_option maxRecDepth 100000
@[go_sem] theorem build_sub (a b : Int) (w : World) : (Instr.build 64 #[(0, .int .i64 a), (1, .int .i64 b)]).run Try.prog w = .ok (.agg #[.int .i64 a, .int .i64 b]) w := run_build w 64 _ _ (by kernel_rfl)
theorem alloc_two (w : World) (o1 o2 : Obj) : ((w.alloc o1).alloc o2).heap[w.heap.size + 1]? = some o2 := by
  have h := heap_alloc_new (w.alloc o1) o2
  have e : (w.alloc o1).heap.size = w.heap.size + 1 := by simp
  rw [e] at h
  exact h
theorem subj_any (r a d : Int) (w : World) : Calls Try.prog 30 #[.agg #[.int .i64 r, .int .i64 a, .int .i64 d]] w fun e w' => e = .returned (.agg #[.int .i64 r, .int .i64 a]) ∧ w' = (w.alloc (.cells #[.int .i64 r, .int .i64 a, .int .i64 d] 34)).alloc (.cells #[.int .i64 r, .int .i64 a] 64) := by
  go_enter Try.func30, Try.ntmps30
  go_wp2
  exact bodyPost_ret (results_cell_row rfl _ _ (w.heap.size + 1) 64 _ (0, 0) _ rfl (alloc_two _ _ _) Try.underlying64 rfl (by kernel_rfl)) rfl ⟨rfl, rfl⟩
theorem keep1 {w : World} {o o1 : Obj} {m : Nat} (h : w.heap[m]? = some o) : (w.alloc o1).heap[m]? = some o := by
  have hl : m < w.heap.size := (Array.getElem?_eq_some_iff.1 h).1
  show (w.heap.push o1)[m]? = some o
  rw [Array.getElem?_push, if_neg (Nat.ne_of_lt hl)]
  exact h
theorem keep3 {w : World} {o o1 o2 o3 : Obj} {m : Nat} (h : w.heap[m]? = some o) : (((w.alloc o1).alloc o2).alloc o3).drew.heap[m]? = some o := keep1 (keep1 (keep1 h))
theorem below_set {B b : Nat} {w w' : World} {o : Obj} (h : Below B w w') (hb : B ≤ b) : Below B w (setBlock w' b o) :=
  ⟨h.os, h.tape, h.output, by simpa [setBlock] using h.size, fun k hk => by
    rw [← h.block k hk]
    show (w'.heap.setIfInBounds b o)[k]? = w'.heap[k]?
    rw [Array.getElem?_setIfInBounds, if_neg (by omega)]⟩
theorem below_alloc {B : Nat} {w w' : World} (h : Below B w w') (hs : B ≤ w'.heap.size) (o : Obj) : Below B w (w'.alloc o) := h.alloc hs o
/-- The map of a voter's digests. -/
theorem dig_any (f : Int) (b off cap : Nat) (L : List VtD) (w : World) (hd : ∀ u v, u ∈ L → v ∈ L → sameS u v = true → u = v) (hnd : L.Nodup) (hlen : L.length ≤ 40) (hb : b < w.heap.size)
    (hc : ∀ (i : Nat) v, L[i]? = some v → w.cell? ⟨b, off + i * 3, none⟩ = some (.int .i64 v.r) ∧ w.cell? ⟨b, off + i * 3 + 1, none⟩ = some (.int .i64 v.a) ∧ w.cell? ⟨b, off + i * 3 + 2, none⟩ = some (.int .i64 v.d)) :
    Calls Try.prog 29 #[.agg #[.int .i64 f, .slice (some ⟨b, off, none⟩) L.length cap]] w fun e w' => ∃ m, e = .returned (.map (some m)) ∧ w.heap.size ≤ m ∧ w'.heap[m]? = some (.map (entA L) L.length) ∧ Below w.heap.size w w' := by
  have hmm := make_run
  go_enter Try.func29, Try.ntmps29
  go_wp2
  go_loopw [13] (fun i wr => ∃ k : Nat, k ≤ L.length ∧ i = .int .i64 k ∧ wr.heap[w.heap.size + 1]? = some (.map (entA (L.take k)) (L.take k).length) ∧ Below w.heap.size w wr)
    (fun i _ => L.length - (intOf i).toNat)
  case atStart =>
    exact ⟨0, Nat.zero_le _, rfl, alloc_two _ _ _, ((Below.refl _ _).alloc (Nat.le_refl _) _).alloc (by simp) _⟩
  case round =>
    obtain ⟨k, hk, rfl, hm, hbel⟩ := hrel
    have hsz : w.heap.size + 1 < wr.heap.size := (Array.getElem?_eq_some_iff.1 hm).1
    rcases Nat.lt_or_ge k L.length with hkl | hkl
    · have hv : L[k]? = some L[k] := List.getElem?_eq_getElem hkl
      obtain ⟨c0, c1, c2⟩ := hc k _ hv
      have d0 := (hbel.cell (p := ⟨b, off + k * 3, none⟩) (by exact hb)).trans c0
      have d1 := (hbel.cell (p := ⟨b, off + k * 3 + 1, none⟩) (by exact hb)).trans c1
      have d2 := (hbel.cell (p := ⟨b, off + k * 3 + 2, none⟩) (by exact hb)).trans c2
      have hts : L.take (k + 1) = L.take k ++ [L[k]] := by rw [List.take_add_one, hv]; rfl
      have hn : ∀ u ∈ L.take k, sameS u L[k] = false := by
        intro u hu
        rw [Bool.eq_false_iff]
        intro q
        have e := hd u _ (List.mem_of_mem_take hu) (List.getElem_mem hkl) q
        obtain ⟨j, hj⟩ := List.mem_iff_getElem?.1 hu
        rw [List.getElem?_take] at hj
        split at hj
        · rename_i hjk
          rw [e] at hj
          have := (List.getElem?_inj (by omega) hnd).1 (hj.trans hv.symm)
          omega
        · cases hj
      generalize L[k] = v at *
      obtain ⟨r, a, d⟩ := v
      dsimp only at d0 d1 d2
      have hl : (L.take (k + 1)).length = k + 1 := by simp; omega
      have hup : (Instr.mapUpdate 60 (.map (some (w.heap.size + 1))) (.agg #[.int .i64 r, .int .i64 a]) (.int .i64 d)).run Try.prog (((wr.alloc (.cells #[.int .i64 r, .int .i64 a, .int .i64 d] 34)).alloc (.cells #[.int .i64 r, .int .i64 a, .int .i64 d] 34)).alloc (.cells #[.int .i64 r, .int .i64 a] 64)).drew = _ :=
        upd_run (v := ⟨r, a, d⟩) (L := L.take k) (keep3 hm) hn
      clear hc hn hd hnd c0 c1 c2
      go_wp2
      go_region_with (go_at_call 30; refine (subj_any r a d _).mono ?_; rintro e w' ⟨rfl, rfl⟩)
      all_goals go_wp2
      all_goals go_roundw
      all_goals first
        | exact ⟨k + 1, by omega, by go_num, by rw [heap_setBlock_same (keep3 hm), hl, hts], below_set ((((hbel.alloc (by omega) _).alloc (by simp; omega) _).alloc (by simp; omega) _).drew) (by omega)⟩
        | (simp [intOf]; omega)
        | trace_state
    · obtain rfl : k = L.length := by omega
      rw [List.take_length] at hm
      go_wp2
      go_ret
      exact ⟨_, rfl, by omega, hm, hbel⟩
end Go.Proofs.Ytalbgcpfekmfoaa
