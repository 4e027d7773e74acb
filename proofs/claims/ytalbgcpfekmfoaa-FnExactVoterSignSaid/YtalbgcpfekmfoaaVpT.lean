/-
The votes that contradict a vote, by hand.
No conditions.
-/
import Derived.Test.YtalbgcpfekmfoaaVpN
import Derived.Test.YtalbgcpfekmfoaaVpO
import Derived.Deep.RegionHeld3
namespace Go.Proofs.Ytalbgcpfekmfoaa
open Go Go.Vc Go.RowKit
open Go.ChangeMaps (setBlock heap_setBlock_same)
set_option maxHeartbeats 1000000
set_option maxRecDepth 100000
/-- One vote contradicts another. -/
def agB (u v : VtD) : Bool := sameS u v && decide (u.d ≠ v.d)
theorem against_any (r a d : Int) (w : World) : Calls Try.prog 27 #[.agg #[.int .i64 r, .int .i64 a, .int .i64 d]] w fun e w' => e = .returned (.func (.func 62) #[] #[.pointer (some ⟨w.heap.size, 0, none⟩)]) ∧ w' = w.alloc (.cells #[.int .i64 r, .int .i64 a, .int .i64 d] 34) := by
  go_enter Try.func27, Try.ntmps27
  go_wp2
  go_ret
  exact ⟨rfl, rfl⟩
theorem cell_a1 {w : World} {x : Addr} {v : Value} {o : Obj} (h : w.cell? x = some v) : (w.alloc o).cell? x = some v := by
  have hl := World.block_lt_of_cell? _ _ h
  rw [← h]
  exact World.cell?_of_block ((show w.heap[x.block]? = some _ from Array.getElem?_eq_getElem hl) ▸ keep1 (Array.getElem?_eq_getElem hl))
theorem clo_any (r a d r' a' d' : Int) (p : Nat) (w : World) (hp : w.heap[p]? = some (.cells #[.int .i64 r', .int .i64 a', .int .i64 d'] 34 (0, 0))) :
    Calls Try.prog 62 #[.agg #[.int .i64 r, .int .i64 a, .int .i64 d], .pointer (some ⟨p, 0, none⟩)] w fun e w' => e = .returned (.bool (agB ⟨r, a, d⟩ ⟨r', a', d'⟩)) ∧ Below w.heap.size w w' := by
  have hs : ∀ r a d w, Calls Try.prog 30 #[.agg #[.int .i64 r, .int .i64 a, .int .i64 d]] w fun e w' => e = .returned (.agg #[.int .i64 r, .int .i64 a]) ∧ w' = (w.alloc (.cells #[.int .i64 r, .int .i64 a, .int .i64 d] 34)).alloc (.cells #[.int .i64 r, .int .i64 a] 64) := subj_any
  have hbel : Box (∀ o1 o2 o3 o4 : Obj, Below w.heap.size w (((((w.alloc (.cells #[.int .i64 r, .int .i64 a, .int .i64 d] 34)).alloc o1).alloc o2).alloc o3).alloc o4).drew) := ⟨fun _ _ _ _ => (((((((Below.refl _ _).alloc (Nat.le_refl _) _).alloc (by simp) _).alloc (by simp; omega) _).alloc (by simp; omega) _).alloc (by simp; omega) _).drew)⟩
  have t1 : (w.alloc (.cells #[.int .i64 r, .int .i64 a, .int .i64 d] 34)).heap[w.heap.size]? = some (.cells #[.int .i64 r, .int .i64 a, .int .i64 d] 34 (0, 0)) := Go.heap_alloc_new _ _
  have t2 : (w.alloc (.cells #[.int .i64 r, .int .i64 a, .int .i64 d] 34)).heap[p]? = some (.cells #[.int .i64 r', .int .i64 a', .int .i64 d'] 34 (0, 0)) := keep1 hp
  have u0 := cell_of t1 0
  have u1 := cell_of t1 1
  have u2 := cell_of t1 2
  have v0 := cell_of t2 0
  have v1 := cell_of t2 1
  have v2 := cell_of t2 2
  simp only [List.getElem?_toArray, List.getElem?_cons_zero, List.getElem?_cons_succ] at u0 u1 u2 v0 v1 v2
  clear t1 t2 hp
  have eqs : ∀ w, (Op.equalIn 10000 64 (.agg #[.int .i64 r, .int .i64 a]) (.agg #[.int .i64 r', .int .i64 a'])).run Try.prog w = .ok (r == r' && a == a') w := fun w => eq_sub _ _ _ _ w
  have hsame : sameS ⟨r, a, d⟩ ⟨r', a', d'⟩ = (r == r' && a == a') := by
    unfold sameS
    rw [Bool.eq_iff_iff]
    simp
  unfold agB
  rw [hsame]
  clear hsame
  dsimp only
  rcases Bool.eq_false_or_eq_true (r == r' && a == a') with hq | hq
  · rw [hq, Bool.true_and]
    go_enter Try.func62, Try.ntmps62
    go_wp2
    generalize w.alloc (.cells #[.int .i64 r, .int .i64 a, .int .i64 d] 34) = W at *
    generalize hh : w.heap.size = h at *
    go_region_held3 (fun w' => w'.cell? ⟨h, 0, none⟩ = some (.int .i64 r) ∧ w'.cell? ⟨h, 1, none⟩ = some (.int .i64 a) ∧ w'.cell? ⟨h, 2, none⟩ = some (.int .i64 d) ∧ w'.cell? ⟨p, 0, none⟩ = some (.int .i64 r') ∧ w'.cell? ⟨p, 1, none⟩ = some (.int .i64 a') ∧ w'.cell? ⟨p, 2, none⟩ = some (.int .i64 d')) (refine ⟨?_, ?_, ?_, ?_, ?_, ?_⟩ <;> (try simp only [World.cell?_drew]) <;> (repeat (first | assumption | apply cell_a1))) (first | (go_at_call 30; refine (hs _ _ _ _).mono ?_; rintro e w' ⟨rfl, rfl⟩))
    go_wp2
    go_ret
    refine ⟨?_, by rw [hh]; exact hbel.out _ _ _ _⟩
    have : (d != d') = decide (d ≠ d') := by
      rw [Bool.eq_iff_iff, bne_iff_ne, decide_eq_true_iff]
    rw [← this]
    rfl
  · rw [hq, Bool.false_and]
    go_enter Try.func62, Try.ntmps62
    go_wp2
    generalize w.alloc (.cells #[.int .i64 r, .int .i64 a, .int .i64 d] 34) = W at *
    generalize hh : w.heap.size = h at *
    have x0 : ∀ o1 o2, ((W.alloc o1).alloc o2).cell? ⟨p, 0, none⟩ = some (.int .i64 r') := fun _ _ => cell_a1 (cell_a1 v0)
    have x1 : ∀ o1 o2, ((W.alloc o1).alloc o2).cell? ⟨p, 1, none⟩ = some (.int .i64 a') := fun _ _ => cell_a1 (cell_a1 v1)
    have x2 : ∀ o1 o2, ((W.alloc o1).alloc o2).cell? ⟨p, 2, none⟩ = some (.int .i64 d') := fun _ _ => cell_a1 (cell_a1 v2)
    first
      | (go_region_with (first | (go_at_call 30; refine (hs _ _ _ _).mono ?_; rintro e w' ⟨rfl, rfl⟩)))
      | skip
    all_goals go_wp2
    all_goals go_ret
    all_goals exact ⟨rfl, by rw [hh]; exact hbel.out _ _ _ _⟩
end Go.Proofs.Ytalbgcpfekmfoaa
