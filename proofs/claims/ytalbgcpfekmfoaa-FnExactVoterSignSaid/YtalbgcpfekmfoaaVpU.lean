/-
Whether a vote of a list contradicts a vote, by hand.
No conditions.
-/
import Derived.Test.YtalbgcpfekmfoaaVpT
namespace Go.Proofs.Ytalbgcpfekmfoaa
open Go Go.Vc Go.RowKit
open Go.ChangeMaps (setBlock heap_setBlock_same)
set_option maxHeartbeats 1000000
set_option maxRecDepth 100000
theorem idx_any (L : List VtD) (r a d : Int) (b off cap p : Nat) (w : World) (hb : b < w.heap.size) (hlen : L.length ≤ 40)
    (hc : ∀ (i : Nat) v, L[i]? = some v → w.cell? ⟨b, off + i * 3, none⟩ = some (.int .i64 v.r) ∧ w.cell? ⟨b, off + i * 3 + 1, none⟩ = some (.int .i64 v.a) ∧ w.cell? ⟨b, off + i * 3 + 2, none⟩ = some (.int .i64 v.d))
    (hp : w.heap[p]? = some (.cells #[.int .i64 r, .int .i64 a, .int .i64 d] 34 (0, 0))) :
    Calls Try.prog 61 #[.slice (some ⟨b, off, none⟩) L.length cap, .func (.func 62) #[] #[.pointer (some ⟨p, 0, none⟩)]] w fun e w' => ∃ z : Int, e = .returned (.int .i64 z) ∧ (0 ≤ z ↔ ∃ u ∈ L, agB u ⟨r, a, d⟩ = true) ∧ Below w.heap.size w w' := by
  have hpl : p < w.heap.size := (Array.getElem?_eq_some_iff.1 hp).1
  have bc : Box (∀ (i : Nat) v, L[i]? = some v → w.cell? ⟨b, off + i * 3, none⟩ = some (.int .i64 v.r) ∧ w.cell? ⟨b, off + i * 3 + 1, none⟩ = some (.int .i64 v.a) ∧ w.cell? ⟨b, off + i * 3 + 2, none⟩ = some (.int .i64 v.d)) := ⟨hc⟩
  have bp : Box (w.heap[p]? = some (.cells #[.int .i64 r, .int .i64 a, .int .i64 d] 34 (0, 0)) ∧ p < w.heap.size ∧ b < w.heap.size) := ⟨hp, hpl, hb⟩
  clear hc hp hpl hb
  go_enter Try.func61, Try.ntmps61
  go_wp2
  go_loopw [8] (fun i wr => ∃ k : Nat, k ≤ L.length ∧ i = .int .i64 k ∧ (∀ u ∈ L.take k, agB u ⟨r, a, d⟩ = false) ∧ Below w.heap.size w wr)
    (fun i _ => L.length - (intOf i).toNat)
  case atStart => exact ⟨0, Nat.zero_le _, rfl, by simp, Below.refl _ _⟩
  case round =>
    obtain ⟨k, hk, rfl, hall, hbel⟩ := hrel
    have ball : Box ((∀ u ∈ L.take k, agB u ⟨r, a, d⟩ = false) ∧ Below w.heap.size w wr) := ⟨hall, hbel⟩
    rcases Nat.lt_or_ge k L.length with hkl | hkl
    · have hv : L[k]? = some L[k] := List.getElem?_eq_getElem hkl
      obtain ⟨c0, c1, c2⟩ := bc.out k _ hv
      have d0 := (hbel.cell (p := ⟨b, off + k * 3, none⟩) (by exact bp.out.2.2)).trans c0
      have d1 := (hbel.cell (p := ⟨b, off + k * 3 + 1, none⟩) (by exact bp.out.2.2)).trans c1
      have d2 := (hbel.cell (p := ⟨b, off + k * 3 + 2, none⟩) (by exact bp.out.2.2)).trans c2
      have bv : Box (L[k]? = some L[k]) := ⟨hv⟩
      clear hv c0 c1 c2 hall hbel
      generalize L[k] = v at *
      obtain ⟨r1, a1, d1'⟩ := v
      dsimp only at d0 d1 d2
      have hcl := clo_any r1 a1 d1' r a d p wr ((ball.out.2.block p bp.out.2.1).trans bp.out.1)
      rcases Bool.eq_false_or_eq_true (agB ⟨r1, a1, d1'⟩ ⟨r, a, d⟩) with hq | hq
      · rw [hq] at hcl
        have bq : Box (agB ⟨r1, a1, d1'⟩ ⟨r, a, d⟩ = true) := ⟨hq⟩
        clear hq
        go_wp2_with (first | (go_at_call 62; refine hcl.mono ?_; rintro e w' ⟨rfl, hb2⟩; have bb : Box (Below wr.heap.size wr w') := ⟨hb2⟩; clear hb2) | go_in)
        go_ret
        exact ⟨k, rfl, ⟨fun _ => ⟨_, List.mem_of_getElem? bv.out, bq.out⟩, fun _ => by omega⟩, ball.out.2.trans (bb.out.mono ball.out.2.size)⟩
      · rw [hq] at hcl
        have bq : Box (agB ⟨r1, a1, d1'⟩ ⟨r, a, d⟩ = false) := ⟨hq⟩
        clear hq
        go_wp2_with (first | (go_at_call 62; refine hcl.mono ?_; rintro e w' ⟨rfl, hb2⟩; have bb : Box (Below wr.heap.size wr w') := ⟨hb2⟩; clear hb2) | go_in)
        go_roundw
        case rel =>
          refine ⟨k + 1, by omega, by go_num, fun u hu => ?_, ball.out.2.trans (bb.out.mono ball.out.2.size)⟩
          rw [List.take_add_one, bv.out] at hu
          rcases List.mem_append.1 hu with hu | hu
          · exact ball.out.1 u hu
          · simp at hu
            rw [hu]
            exact bq.out
        case measure => simp [intOf]; omega
    · obtain rfl : k = L.length := by omega
      clear hall hbel
      go_wp2
      go_ret
      refine ⟨-1, rfl, ⟨fun h => absurd h (by omega), ?_⟩, ball.out.2⟩
      rintro ⟨u, hu, hq⟩
      rw [ball.out.1 u (by rw [List.take_length]; exact hu)] at hq
      cases hq
theorem idx_nil (c : Value) (ad : Option Addr) (cap : Nat) (w : World) :
    Calls Try.prog 61 #[.slice ad 0 cap, c] w fun e w' => e = .returned (.int .i64 (-1)) ∧ w' = w := by
  go_enter Try.func61, Try.ntmps61
  go_wp2
  refine wp_loop_rounds 1 ?_
  rw [rounds_succ]
  go_wp2
  go_ret
  exact ⟨rfl, rfl⟩
theorem con_any (L : List VtD) (r a d : Int) (b off cap p : Nat) (w : World) (hb : b < w.heap.size) (hlen : L.length ≤ 40)
    (hc : ∀ (i : Nat) v, L[i]? = some v → w.cell? ⟨b, off + i * 3, none⟩ = some (.int .i64 v.r) ∧ w.cell? ⟨b, off + i * 3 + 1, none⟩ = some (.int .i64 v.a) ∧ w.cell? ⟨b, off + i * 3 + 2, none⟩ = some (.int .i64 v.d))
    (hp : w.heap[p]? = some (.cells #[.int .i64 r, .int .i64 a, .int .i64 d] 34 (0, 0))) :
    Calls Try.prog 26 #[.slice (some ⟨b, off, none⟩) L.length cap, .func (.func 62) #[] #[.pointer (some ⟨p, 0, none⟩)]] w fun e w' => e = .returned (.bool (L.any fun u => agB u ⟨r, a, d⟩)) ∧ Below w.heap.size w w' := by
  have hi := idx_any L r a d b off cap p w hb hlen hc hp
  clear hb hlen hc hp
  go_enter Try.func26, Try.ntmps26
  go_wp2_with (first | (go_at_call 61; refine hi.mono ?_; rintro e w' ⟨z, rfl, hz, hb2⟩; have bb : Box (Below w.heap.size w w' ∧ (0 ≤ z ↔ ∃ u ∈ L, agB u ⟨r, a, d⟩ = true)) := ⟨hb2, hz⟩; clear hb2 hz) | go_in)
  go_ret
  refine ⟨?_, bb.out.1⟩
  have : (L.any fun u => agB u ⟨r, a, d⟩) = decide (0 ≤ z) := by
    rw [Bool.eq_iff_iff, List.any_eq_true, decide_eq_true_iff]
    exact bb.out.2.symm
  rw [this]
  rfl
theorem con_nil (c : Value) (ad : Option Addr) (cap : Nat) (w : World) :
    Calls Try.prog 26 #[.slice ad 0 cap, c] w fun e w' => e = .returned (.bool false) ∧ w' = w := by
  have hi := fun w => idx_nil c ad cap w
  go_enter Try.func26, Try.ntmps26
  go_wp2_with (first | (go_at_call 61; refine (hi _).mono ?_; rintro e w' ⟨rfl, rfl⟩) | go_in)
  go_ret
  exact ⟨rfl, rfl⟩
theorem dig_nil (f : Int) (ad : Option Addr) (cap : Nat) (w : World) :
    Calls Try.prog 29 #[.agg #[.int .i64 f, .slice ad 0 cap]] w fun e w' => ∃ m, e = .returned (.map (some m)) ∧ w.heap.size ≤ m ∧ w'.heap[m]? = some (.map (entA []) ([] : List VtD).length) ∧ Below w.heap.size w w' := by
  have hmm := make_run
  go_enter Try.func29, Try.ntmps29
  go_wp2
  refine wp_loop_rounds 1 ?_
  rw [rounds_succ]
  go_wp2
  go_ret
  exact ⟨_, rfl, by omega, alloc_two _ _ _, ((Below.refl _ _).alloc (Nat.le_refl _) _).alloc (by simp) _⟩
end Go.Proofs.Ytalbgcpfekmfoaa
