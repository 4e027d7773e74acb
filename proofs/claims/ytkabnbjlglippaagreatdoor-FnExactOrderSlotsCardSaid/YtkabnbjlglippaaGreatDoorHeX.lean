/-
The queue of waiting vertices: its methods, found behind heap.Interface.
container/heap over the queue of waiting vertices.
container/heap over the queue of waiting vertices: one put in, one taken out, all taken out.
All vertices taken out of the queue, in order.
No conditions.
-/
import Derived.Test.YtkabnbjlglippaaGreatDoorPlB
import Derived.Test.YtkabnbjlglippaaGreatDoorWiX
import Derived.Test.YtkabnbjlglippaaGreatDoorVcMH
namespace Go.Proofs.YtkabnbjlglippaaGreatDoor
open Go Go.Vc
set_option maxHeartbeats 4000000
set_option maxRecDepth 10000
theorem m_Len : MethOk Tryz.prog 104 "Len" (101, false, 105) := meth_val (by rfl) (by rfl) rfl rfl (by rfl)
theorem m_Less : MethOk Tryz.prog 104 "Less" (145, false, 105) := meth_val (by rfl) (by rfl) rfl rfl (by rfl)
theorem m_Swap : MethOk Tryz.prog 104 "Swap" (148, false, 105) := meth_val (by rfl) (by rfl) rfl rfl (by rfl)
theorem m_Push : MethOk Tryz.prog 104 "Push" (147, true, 105) := meth_ptr (by rfl) (by rfl) rfl rfl (by rfl)
theorem m_Pop : MethOk Tryz.prog 104 "Pop" (146, true, 105) := meth_ptr (by rfl) (by rfl) rfl rfl (by rfl)
abbrev qT : TypeId := 104
def c_queue_Len : Con := ⟨0, 0, false, fun xs hs _ K => match xs with
  | [.sl 4 rows] => hs = [] ∧ rows.length < 2000000 ∧ K (I rows.length) [] []
  | _ => False⟩
theorem k_impl_queue_Len : Keeps' Tryz.prog 101 c_queue_Len := by
  refine keeps_of_vc mix TyT_ok cok_nil Tryz.func101 rfl rfl rfl ?_
  intro aargs hs Fs K h
  simp only [c_queue_Len] at h
  split at h
  case h_2 => exact h.elim
  rename_i rows
  obtain ⟨rfl, hr, h⟩ := h
  repeat' (first|((conv=>whnf); (first|refine brK_dec (fun _=>?_) (fun _=>?_)|refine brK_ndec (fun _=>?_) (fun _=>?_)|refine brK_not (fun _=>?_) (fun _=>?_)|refine brK_in (fun _=>?_) (fun _=>?_)|refine And.intro (by first|exact rfl|exact ⟨_,rfl,rfl⟩|exact ⟨rfl,rfl,rfl⟩|exact of_decide_eq_true rfl|exact trivial|assumption|omega|(show (_ ≤ _ ∧ _ ≤ _); omega)|(simp; omega)|exact ⟨by first|omega|(simp; omega),_,rfl,rfl⟩) ?_|refine Quo.l (And.intro (by first|exact rfl|assumption|omega|(simp; omega)) ?_)|refine Quo.r (And.intro (by omega) ?_)|refine Both.mk ?_ ?_|refine Exists.intro _ (And.intro rfl ?_)|refine fun _=>?_))|exact rfl)
  exact h
def c_queue_Less : Con := ⟨0, 0, false, fun xs hs _ K => match xs with
  | [.sl 4 rows, .val (.int .i64 x), .val (.int .i64 y)] => hs = [] ∧ ∃ q : List VxD, rows = q.map VxD.row ∧ ∃ (i j : Nat) (u v : VxD), x = i ∧ y = j ∧ q[i]? = some u ∧ q[j]? = some v ∧ K (B (ltB u v)) [] []
  | _ => False⟩
theorem k_impl_queue_Less : Keeps' Tryz.prog 145 c_queue_Less := by
  refine keeps_of_vc mix TyT_ok (cok_cons k_impl_precedes Tryz.func90 rfl rfl cok_nil) Tryz.func145 rfl rfl rfl ?_
  intro aargs hs Fs K h
  simp only [c_queue_Less] at h
  split at h
  case h_2 => exact h.elim
  rename_i rows x y
  obtain ⟨rfl, q, rfl, i, j, u, v, rfl, rfl, hu, hv, h⟩ := h
  have h1 := (List.getElem?_eq_some_iff.1 hu).1
  have h2 := (List.getElem?_eq_some_iff.1 hv).1
  have hlen : (q.map VxD.row).length = q.length := by simp
  have hu2 : q[((i : Nat) : Int).toNat]? = some u := hu
  have hv2 : q[((j : Nat) : Int).toNat]? = some v := hv
  repeat' (first|((conv=>whnf); (first|refine draw_plan (id := 1) [] [] (.take 0 (.take 1 (.take 2 (.take 3 (.take 4 (.take 5 (.take 6 (.take 7 (.run 8 (.take 9 .done)))))))))) (by kernel_rfl) (by kernel_rfl) ?_|refine brK_dec (fun _=>?_) (fun _=>?_)|refine brK_ndec (fun _=>?_) (fun _=>?_)|refine brK_not (fun _=>?_) (fun _=>?_)|refine brK_in (fun _=>?_) (fun _=>?_)|refine And.intro (by first|exact rfl|exact ⟨_,rfl,rfl⟩|exact ⟨rfl,rfl,rfl⟩|exact of_decide_eq_true rfl|exact trivial|assumption|omega|(show (_ ≤ _ ∧ _ ≤ _); omega)|(simp; omega)|exact ⟨by first|omega|(simp; omega),_,rfl,rfl⟩) ?_|refine Quo.l (And.intro (by first|exact rfl|assumption|omega|(simp; omega)) ?_)|refine Quo.r (And.intro (by omega) ?_)|refine Both.mk ?_ ?_|refine Exists.intro _ (And.intro rfl ?_)|refine vrow_use (by assumption) ?_|refine opt_use (by assumption) ?_|refine fun _=>?_))|exact rfl)
  exact h
theorem row_set {q : List VxD} {i : Nat} {v : VxD} : (q.map VxD.row).set i v.row = (q.set i v).map VxD.row := by rw [List.map_set]
def c_queue_Swap : Con := ⟨0, 3, true, fun xs hs _ K => match xs, hs with
  | [.own 0, .val (.int .i64 x), .val (.int .i64 y)], [.arr 4 rows] => ∃ q : List VxD, rows = q.map VxD.row ∧ ∃ (i j : Nat) (u v : VxD), x = i ∧ y = j ∧ q[i]? = some u ∧ q[j]? = some v ∧ q.length < 2000000 ∧ K (.tup []) [.arr 4 (((q.set i v).set j u).map VxD.row)] []
  | [.sub 0 0 n, .val (.int .i64 x), .val (.int .i64 y)], [.arr 4 rows] => ∃ q : List VxD, rows = q.map VxD.row ∧ ∃ (i j : Nat) (u v : VxD), x = i ∧ y = j ∧ i < n ∧ j < n ∧ q[i]? = some u ∧ q[j]? = some v ∧ q.length < 2000000 ∧ K (.tup []) [.arr 4 (((q.set i v).set j u).map VxD.row)] []
  | _, _ => False⟩
theorem row_at {q : List VxD} {n : Nat} {e : List AV} {v : VxD} (hv : q[n]? = some v) (h : (q.map VxD.row)[n]? = some e) : e = v.row := by
  rw [List.getElem?_map, hv] at h
  exact (Option.some.inj h).symm
theorem set_at {q : List VxD} {i j : Nat} {u v : VxD} (hu : q[i]? = some u) (hv : q[j]? = some v) : (q.set i v)[j]? = some v := by
  rw [List.getElem?_set]
  have h1 := (List.getElem?_eq_some_iff.1 hu).1
  split
  · rename_i e
    subst e
    first
      | rfl
      | rw [if_pos h1]
  · exact hv
theorem k_impl_queue_Swap : Keeps' Tryz.prog 148 c_queue_Swap := by
  refine keeps_of_vc mix TyT_ok (cok_stay cok_nil) Tryz.func148 rfl rfl rfl ?_
  intro aargs hs Fs K h
  simp only [c_queue_Swap] at h
  split at h
  case h_3 => exact h.elim
  · rename_i x y rows
    obtain ⟨q, rfl, i, j, u, v, rfl, rfl, hu, hv, hq, h⟩ := h
    have h1 := (List.getElem?_eq_some_iff.1 hu).1
    have h2 := (List.getElem?_eq_some_iff.1 hv).1
    have hlen : (q.map VxD.row).length = q.length := by simp
    have hu2 : q[((i : Nat) : Int).toNat]? = some u := hu
    have hv2 : q[((j : Nat) : Int).toNat]? = some v := hv
    repeat' (first|((conv=>whnf); (first|refine draw_plan (id := 0) [] [13,14,15] (.take 0 (.take 1 (.take 2 (.take 3 (.take 4 (.take 5 (.take 6 (.take 7 (.take 8 (.take 9 (.take 10 (.take 11 (.take 12 (.run 13 (.run 14 (.run 15 .done)))))))))))))))) (by kernel_rfl) (by kernel_rfl) ?_|refine brK_dec (fun _=>?_) (fun _=>?_)|refine brK_ndec (fun _=>?_) (fun _=>?_)|refine brK_not (fun _=>?_) (fun _=>?_)|refine brK_in (fun _=>?_) (fun _=>?_)|refine And.intro (by first|exact rfl|exact ⟨_,rfl,rfl⟩|exact ⟨rfl,rfl,rfl⟩|exact of_decide_eq_true rfl|exact trivial|assumption|omega|(show (_ ≤ _ ∧ _ ≤ _); omega)|(simp; omega)|exact ⟨by first|omega|(simp; omega),_,rfl,rfl⟩) ?_|refine Quo.l (And.intro (by first|exact rfl|assumption|omega|(simp; omega)) ?_)|refine Quo.r (And.intro (by omega) ?_)|refine Both.mk ?_ ?_|refine Exists.intro _ (And.intro rfl ?_)|refine vrow_use (by assumption) ?_|refine opt_use (by assumption) ?_|refine fun _=>?_))|exact rfl)
    rename_i e he
    have he : ((q.map VxD.row).set i v.row)[j]? = some e := he
    rw [row_set] at he
    obtain rfl := row_at (set_at hu hv) he
    show K _ [.arr 4 (((q.map VxD.row).set i v.row).set j u.row)] []
    rw [row_set, row_set]
    exact h
  · rename_i n x y rows
    obtain ⟨q, rfl, i, j, u, v, rfl, rfl, hin, hjn, hu, hv, hq, h⟩ := h
    have h1 := (List.getElem?_eq_some_iff.1 hu).1
    have h2 := (List.getElem?_eq_some_iff.1 hv).1
    have hlen : (q.map VxD.row).length = q.length := by simp
    have hu2 : q[0 + ((i : Nat) : Int).toNat]? = some u := by rw [Nat.zero_add]; exact hu
    have hv2 : q[0 + ((j : Nat) : Int).toNat]? = some v := by rw [Nat.zero_add]; exact hv
    repeat' (first|((conv=>whnf); (first|refine draw_plan (id := 0) [] [13,14,15] (.take 0 (.take 1 (.take 2 (.take 3 (.take 4 (.take 5 (.take 6 (.take 7 (.take 8 (.take 9 (.take 10 (.take 11 (.take 12 (.run 13 (.run 14 (.run 15 .done)))))))))))))))) (by kernel_rfl) (by kernel_rfl) ?_|refine brK_dec (fun _=>?_) (fun _=>?_)|refine brK_ndec (fun _=>?_) (fun _=>?_)|refine brK_not (fun _=>?_) (fun _=>?_)|refine brK_in (fun _=>?_) (fun _=>?_)|refine And.intro (by first|exact rfl|exact ⟨_,rfl,rfl⟩|exact ⟨rfl,rfl,rfl⟩|exact of_decide_eq_true rfl|exact trivial|assumption|omega|(show (_ ≤ _ ∧ _ ≤ _); omega)|(simp; omega)|exact ⟨by first|omega|(simp; omega),_,rfl,rfl⟩) ?_|refine Quo.l (And.intro (by first|exact rfl|assumption|omega|(simp; omega)) ?_)|refine Quo.r (And.intro (by omega) ?_)|refine Both.mk ?_ ?_|refine Exists.intro _ (And.intro rfl ?_)|refine vrow_use (by assumption) ?_|refine opt_use (by assumption) ?_|refine fun _=>?_))|exact rfl)
    rename_i e he
    rw [Nat.zero_add, Nat.zero_add] at he
    have he : ((q.map VxD.row).set i v.row)[j]? = some e := he
    rw [row_set] at he
    obtain rfl := row_at (set_at hu hv) he
    show K _ [.arr 4 (((q.map VxD.row).set (0 + i) v.row).set (0 + j) u.row)] []
    rw [Nat.zero_add, Nat.zero_add, row_set, row_set]
    exact h
def c_queue_Push : Con := ⟨1, 2, true, fun xs hs _ K => match xs, hs with
  | [.ptr 0 0, .iface t (.agg [.val (.int .i64 r), .val (.int .i64 a), .ints p, .val (.int .i64 d)])], [.cells [.val (.slice none 0 0)]] => t = 49 ∧ K (.tup []) [.cells [.own 1], .arr 4 (([⟨r, a, p, d⟩] : List VxD).map VxD.row)] []
  | [.ptr 0 0, .iface t (.agg [.val (.int .i64 r), .val (.int .i64 a), .ints p, .val (.int .i64 d)])], [.cells [.own 1], .arr 4 rows] => t = 49 ∧ ∃ q : List VxD, rows = q.map VxD.row ∧ q.length < 2000000 ∧ K (.tup []) [.cells [.own 1], .arr 4 ((q ++ [(⟨r, a, p, d⟩ : VxD)]).map VxD.row)] []
  | _, _ => False⟩
theorem k_impl_queue_Push : Keeps' Tryz.prog 147 c_queue_Push := by
  refine keeps_of_vc mix TyT_ok cok_nil Tryz.func147 rfl rfl rfl ?_
  intro aargs hs Fs K h
  simp only [c_queue_Push] at h
  split at h
  case h_3 => exact h.elim
  · rename_i t r a p d
    obtain ⟨rfl, h⟩ := h
    repeat' (first|((conv=>whnf); (first|refine draw_plan (id := 2) [] [8] (.take 0 (.take 1 (.take 2 (.take 3 (.take 4 (.run 5 (.run 6 (.take 7 (.run 8 .done))))))))) (by kernel_rfl) (by kernel_rfl) ?_|refine brK_dec (fun _=>?_) (fun _=>?_)|refine brK_ndec (fun _=>?_) (fun _=>?_)|refine brK_not (fun _=>?_) (fun _=>?_)|refine brK_in (fun _=>?_) (fun _=>?_)|refine And.intro (by first|exact rfl|exact ⟨_,rfl,rfl⟩|exact ⟨rfl,rfl,rfl⟩|exact of_decide_eq_true rfl|exact trivial|assumption|omega|(show (_ ≤ _ ∧ _ ≤ _); omega)|(simp; omega)|exact ⟨by first|omega|(simp; omega),_,rfl,rfl⟩) ?_|refine Quo.l (And.intro (by first|exact rfl|assumption|omega|(simp; omega)) ?_)|refine Quo.r (And.intro (by omega) ?_)|refine Both.mk ?_ ?_|refine Exists.intro _ (And.intro rfl ?_)|refine vrow_use (by assumption) ?_|refine opt_use (by assumption) ?_|refine fun _=>?_))|exact rfl)
    refine ⟨fun hh => (by cases hh), fun _ => ?_⟩
    repeat' (first|((conv=>whnf); (first|refine draw_plan (id := 2) [] [8] (.take 0 (.take 1 (.take 2 (.take 3 (.take 4 (.run 5 (.run 6 (.take 7 (.run 8 .done))))))))) (by kernel_rfl) (by kernel_rfl) ?_|refine brK_dec (fun _=>?_) (fun _=>?_)|refine brK_ndec (fun _=>?_) (fun _=>?_)|refine brK_not (fun _=>?_) (fun _=>?_)|refine brK_in (fun _=>?_) (fun _=>?_)|refine And.intro (by first|exact rfl|exact ⟨_,rfl,rfl⟩|exact ⟨rfl,rfl,rfl⟩|exact of_decide_eq_true rfl|exact trivial|assumption|omega|(show (_ ≤ _ ∧ _ ≤ _); omega)|(simp; omega)|exact ⟨by first|omega|(simp; omega),_,rfl,rfl⟩) ?_|refine Quo.l (And.intro (by first|exact rfl|assumption|omega|(simp; omega)) ?_)|refine Quo.r (And.intro (by omega) ?_)|refine Both.mk ?_ ?_|refine Exists.intro _ (And.intro rfl ?_)|refine vrow_use (by assumption) ?_|refine opt_use (by assumption) ?_|refine fun _=>?_))|exact rfl)
    exact h
  · rename_i t r a p d rows
    obtain ⟨rfl, q, rfl, hq, h⟩ := h
    have hlen : (q.map VxD.row).length = q.length := by simp
    repeat' (first|((conv=>whnf); (first|refine draw_plan (id := 2) [1] [8] (.take 0 (.take 1 (.take 2 (.take 3 (.take 4 (.run 5 (.run 6 (.take 7 (.run 8 .done))))))))) (by kernel_rfl) (by kernel_rfl) ?_|refine brK_dec (fun _=>?_) (fun _=>?_)|refine brK_ndec (fun _=>?_) (fun _=>?_)|refine brK_not (fun _=>?_) (fun _=>?_)|refine brK_in (fun _=>?_) (fun _=>?_)|refine And.intro (by first|exact rfl|exact (by first|(show ((q.map VxD.row).length + 1) * 48 ≤ 140737488355328; omega)|(show (q.map VxD.row).length + 1 ≤ 9223372036854775807; omega))|exact ⟨_,rfl,rfl⟩|exact ⟨rfl,rfl,rfl⟩|exact of_decide_eq_true rfl|exact trivial|assumption|omega|(show (_ ≤ _ ∧ _ ≤ _); omega)|(simp; omega)|exact ⟨by first|omega|(simp; omega),_,rfl,rfl⟩) ?_|refine Quo.l (And.intro (by first|exact rfl|exact (by first|(show ((q.map VxD.row).length + 1) * 48 ≤ 140737488355328; omega)|(show (q.map VxD.row).length + 1 ≤ 9223372036854775807; omega))|assumption|omega|(simp; omega)) ?_)|refine Quo.r (And.intro (by omega) ?_)|refine Both.mk ?_ ?_|refine Exists.intro _ (And.intro rfl ?_)|refine vrow_use (by assumption) ?_|refine opt_use (by assumption) ?_|refine fun _=>?_))|exact rfl)
    show K _ [.cells [.own 1], .arr 4 (List.take (q.map VxD.row).length (q.map VxD.row) ++ [VxD.row ⟨r, a, p, d⟩])] []
    rw [List.take_length]
    rw [List.map_append] at h
    exact h
def c_queue_Pop : Con := ⟨0, 2, true, fun xs hs _ K => match xs, hs with
  | [.ptr 0 0], [.cells [.own 1], .arr 4 rows] => ∃ (q : List VxD) (n : Nat) (v : VxD), rows = q.map VxD.row ∧ q.length = n + 1 ∧ n < 2000000 ∧ q[n]? = some v ∧ K (.iface 49 (.agg v.row)) [.cells [.sub 1 0 n], .arr 4 (q.map VxD.row)] []
  | [.ptr 0 0], [.cells [.sub 1 0 m], .arr 4 rows] => ∃ (q : List VxD) (n : Nat) (v : VxD), rows = q.map VxD.row ∧ m = n + 1 ∧ m ≤ q.length ∧ n < 2000000 ∧ q[n]? = some v ∧ K (.iface 49 (.agg v.row)) [.cells [.sub 1 0 n], .arr 4 (q.map VxD.row)] []
  | _, _ => False⟩
theorem k_impl_queue_Pop : Keeps' Tryz.prog 146 c_queue_Pop := by
  refine keeps_of_vc mix TyT_ok cok_nil Tryz.func146 rfl rfl rfl ?_
  intro aargs hs Fs K h
  simp only [c_queue_Pop] at h
  split at h
  case h_3 => exact h.elim
  · rename_i rows
    obtain ⟨q, n, v, rfl, hl, hn, hv, h⟩ := h
    have hlen : (q.map VxD.row).length = n + 1 := by simpa using hl
    have e1 : (((q.map VxD.row).length : Int) - 1).toNat = n := by omega
    have hv2 : q[(((q.map VxD.row).length : Int) - 1).toNat]? = some v := by rw [e1]; exact hv
    repeat' (first|((conv=>whnf); (first|refine brK_dec (fun _=>?_) (fun _=>?_)|refine brK_ndec (fun _=>?_) (fun _=>?_)|refine brK_not (fun _=>?_) (fun _=>?_)|refine brK_in (fun _=>?_) (fun _=>?_)|refine And.intro (by first|exact rfl|exact ⟨_,rfl,rfl⟩|exact ⟨rfl,rfl,rfl⟩|exact of_decide_eq_true rfl|exact trivial|assumption|omega|(show (_ ≤ _ ∧ _ ≤ _); omega)|(simp; omega)|exact ⟨by first|omega|(simp; omega),_,rfl,rfl⟩) ?_|refine Quo.l (And.intro (by first|exact rfl|assumption|omega|(simp; omega)) ?_)|refine Quo.r (And.intro (by omega) ?_)|refine Both.mk ?_ ?_|refine Exists.intro _ (And.intro rfl ?_)|refine vrow_use (by assumption) ?_|refine opt_use (by assumption) ?_|refine fun _=>?_))|exact rfl)
    show K (.iface 49 (.agg v.row)) [.cells [.sub 1 0 (((q.map VxD.row).length : Int) - 1).toNat], .arr 4 (q.map VxD.row)] []
    rw [e1]
    exact h
  · rename_i m rows
    obtain ⟨q, n, v, rfl, rfl, hl, hn, hv, h⟩ := h
    have hlen : (q.map VxD.row).length = q.length := by simp
    have e1 : (((n + 1 - 0 : Nat) : Int) - 1).toNat = n := by omega
    have hv2 : q[0 + (((n + 1 - 0 : Nat) : Int) - 1).toNat]? = some v := by rw [e1, Nat.zero_add]; exact hv
    repeat' (first|((conv=>whnf); (first|refine brK_dec (fun _=>?_) (fun _=>?_)|refine brK_ndec (fun _=>?_) (fun _=>?_)|refine brK_not (fun _=>?_) (fun _=>?_)|refine brK_in (fun _=>?_) (fun _=>?_)|refine And.intro (by first|exact rfl|exact ⟨_,rfl,rfl⟩|exact ⟨rfl,rfl,rfl⟩|exact of_decide_eq_true rfl|exact trivial|assumption|omega|(show (_ ≤ _ ∧ _ ≤ _); omega)|(simp; omega)|exact ⟨by first|omega|(simp; omega),_,rfl,rfl⟩) ?_|refine Quo.l (And.intro (by first|exact rfl|assumption|omega|(simp; omega)) ?_)|refine Quo.r (And.intro (by omega) ?_)|refine Both.mk ?_ ?_|refine Exists.intro _ (And.intro rfl ?_)|refine vrow_use (by assumption) ?_|refine opt_use (by assumption) ?_|refine fun _=>?_))|exact rfl)
    show K (.iface 49 (.agg v.row)) [.cells [.sub 1 0 (0 + (((n + 1 - 0 : Nat) : Int) - 1).toNat)], .arr 4 (q.map VxD.row)] []
    rw [e1, Nat.zero_add]
    exact h
end Go.Proofs.YtkabnbjlglippaaGreatDoor
namespace Go.Proofs.YtkabnbjlglippaaGreatDoor
open Go Go.Vc
set_option maxHeartbeats 4000000
set_option maxRecDepth 10000
/-- A vertex that is not less than the one above it stays. -/
def c_heap_up : Con := ⟨0, 2, true, fun xs hs _ K => match xs, hs with
  | [.ifp t 0 0, .val (.int .i64 y)], [.cells [.own 1], .arr 4 rows] => t = qT ∧ ∃ (q : List VxD) (j : Nat) (u v : VxD), rows = q.map VxD.row ∧ y = j ∧ q.length < 2000000 ∧ q[(j - 1) / 2]? = some u ∧ q[j]? = some v ∧ (0 < j → leX u v) ∧ K (.tup []) [.cells [.own 1], .arr 4 (q.map VxD.row)] []
  | _, _ => False⟩
theorem ltB_no {u v : VxD} (h : leX u v) : ltB v u = false := by
  cases e : ltB v u with
  | false => rfl
  | true => exact absurd (ltB_iff.1 e) h
theorem less_in {q : List VxD} {i j : Nat} {u v : VxD} {K : AV → List AO → List Fam → Prop} (hu : q[i]? = some u) (hv : q[j]? = some v) (h : K (B (ltB u v)) [] []) : ∃ q' : List VxD, q.map VxD.row = q'.map VxD.row ∧ ∃ (i' j' : Nat) (u v : VxD), (i : Int) = i' ∧ (j : Int) = j' ∧ q'[i']? = some u ∧ q'[j']? = some v ∧ K (B (ltB u v)) [] [] :=
  ⟨q, rfl, i, j, u, v, rfl, rfl, hu, hv, h⟩
theorem k_container_heap_up : Keeps' Tryz.prog 100 c_heap_up := by
  refine keeps_of_vc mix TyT_ok (cok_meth (cok_meth (cok_cons k_impl_queue_Less Tryz.func145 rfl rfl (cok_cons k_impl_queue_Swap Tryz.func148 rfl rfl cok_nil)) m_Less) m_Swap) Tryz.func100 rfl rfl rfl ?_
  intro aargs hs Fs K h
  simp only [c_heap_up] at h
  split at h
  case h_2 => exact h.elim
  rename_i t y rows
  obtain ⟨rfl, q, j, u, v, rfl, rfl, hq, hu, hv, hle, h⟩ := h
  have hlen : (q.map VxD.row).length = q.length := by simp
  repeat' (first|((conv=>whnf); (first|refine brK_dec (fun _=>?_) (fun _=>?_)|refine brK_ndec (fun _=>?_) (fun _=>?_)|refine brK_not (fun _=>?_) (fun _=>?_)|refine brK_in (fun _=>?_) (fun _=>?_)|refine And.intro (by first|exact rfl|exact ⟨_,rfl,rfl⟩|exact ⟨rfl,rfl,rfl⟩|exact of_decide_eq_true rfl|exact trivial|assumption|omega|(show (_ ≤ _ ∧ _ ≤ _); omega)|(simp; omega)|exact ⟨by first|omega|(simp; omega),_,rfl,rfl⟩) ?_|refine Quo.l (And.intro (by first|exact rfl|assumption|omega|(simp; omega)) ?_)|refine Quo.r (And.intro (by omega) ?_)|refine Both.mk ?_ ?_|refine Exists.intro _ (And.intro rfl ?_)|refine vrow_use (by assumption) ?_|refine opt_use (by assumption) ?_|refine fun _=>?_))|exact rfl)
  refine loop_in (ι := Unit) (fun _ => mkS 23 [(0, .ifp qT 0 0), (1, I j)] [.cells [.own 1], .arr 4 (q.map VxD.row)] Fs) (fun _ => True) (fun _ => 0) () [0, 1] trivial ?_ ?_
  · repeat' (first|((conv=>whnf); (first|refine brK_dec (fun _=>?_) (fun _=>?_)|refine brK_ndec (fun _=>?_) (fun _=>?_)|refine brK_not (fun _=>?_) (fun _=>?_)|refine brK_in (fun _=>?_) (fun _=>?_)|refine And.intro (by first|exact rfl|exact ⟨_,rfl,rfl⟩|exact ⟨rfl,rfl,rfl⟩|exact of_decide_eq_true rfl|exact trivial|assumption|omega|(show (_ ≤ _ ∧ _ ≤ _); omega)|(simp; omega)|exact ⟨by first|omega|(simp; omega),_,rfl,rfl⟩) ?_|refine Quo.l (And.intro (by first|exact rfl|assumption|omega|(simp; omega)) ?_)|refine Quo.r (And.intro (by omega) ?_)|refine Both.mk ?_ ?_|refine Exists.intro _ (And.intro rfl ?_)|refine vrow_use (by assumption) ?_|refine opt_use (by assumption) ?_|refine fun _=>?_))|exact rfl)
  intro _ _
  have hjl := (List.getElem?_eq_some_iff.1 hv).1
  rcases Nat.eq_zero_or_pos j with h0 | h0
  · subst h0
    repeat' (first|((conv=>whnf); (first|refine brK_dec (fun _=>?_) (fun _=>?_)|refine brK_ndec (fun _=>?_) (fun _=>?_)|refine brK_not (fun _=>?_) (fun _=>?_)|refine brK_in (fun _=>?_) (fun _=>?_)|refine And.intro (by first|exact rfl|exact ⟨_,rfl,rfl⟩|exact ⟨rfl,rfl,rfl⟩|exact of_decide_eq_true rfl|exact trivial|assumption|omega|(show (_ ≤ _ ∧ _ ≤ _); omega)|(simp; omega)|exact ⟨by first|omega|(simp; omega),_,rfl,rfl⟩) ?_|refine Quo.l (And.intro (by first|exact rfl|assumption|omega|(simp; omega)) ?_)|refine Quo.r (And.intro (by omega) ?_)|refine Both.mk ?_ ?_|refine Exists.intro _ (And.intro rfl ?_)|refine vrow_use (by assumption) ?_|refine opt_use (by assumption) ?_|refine fun _=>?_))|exact rfl)
    exact h
  · have e1 : ((j : Int) - 1) / 2 = ((j - 1) / 2 : Nat) := by omega
    have hno := ltB_no (hle h0)
    repeat' (first|((conv=>whnf); (first|refine Exists.intro q (And.intro rfl (Exists.intro j (Exists.intro ((j - 1) / 2) (Exists.intro v (Exists.intro u (And.intro rfl (And.intro e1 (And.intro hv (And.intro hu ?_)))))))))|refine brK_dec (fun _=>?_) (fun _=>?_)|refine brK_ndec (fun _=>?_) (fun _=>?_)|refine brK_not (fun _=>?_) (fun _=>?_)|refine brK_in (fun _=>?_) (fun _=>?_)|refine And.intro (by first|exact rfl|exact ⟨_,rfl,rfl⟩|exact ⟨rfl,rfl,rfl⟩|exact of_decide_eq_true rfl|exact trivial|assumption|omega|(show (_ ≤ _ ∧ _ ≤ _); omega)|(simp; omega)|exact ⟨by first|omega|(simp; omega),_,rfl,rfl⟩) ?_|refine Quo.l (And.intro (by first|exact rfl|assumption|omega|(simp; omega)) ?_)|refine Quo.r (And.intro (by omega) ?_)|refine Both.mk ?_ ?_|refine Exists.intro _ (And.intro rfl ?_)|refine vrow_use (by assumption) ?_|refine opt_use (by assumption) ?_|refine fun _=>?_))|exact rfl)
    · exact h
    · exact h
    · rename_i e
      rw [hno] at e
      cases e
theorem hp_leaf {l : List VxD} {n i : Nat} (h : HpAt l n i) (hi : n ≤ 2 * i + 1) : Hp l n := fun j u v hj0 hjn hu hv => h.up j u v hj0 hjn (by omega) hu hv
def c_heap_down : Con := ⟨0, 2, true, fun xs hs _ K => match xs, hs with
  | [.ifp t 0 0, .val (.int .i64 x), .val (.int .i64 y)], [.cells [.own 1], .arr 4 rows] => t = qT ∧ x = 0 ∧ ∃ (q : List VxD) (n : Nat), rows = q.map VxD.row ∧ y = n ∧ n ≤ q.length ∧ q.length < 2000000 ∧ HpAt q n 0 ∧ ∀ (q' : List VxD) (b : Bool), q'.length = q.length → Sunk q q' n → Hp q' n → K (B b) [.cells [.own 1], .arr 4 (q'.map VxD.row)] []
  | [.ifp t 0 0, .val (.int .i64 x), .val (.int .i64 y)], [.cells [.sub 1 0 m], .arr 4 rows] => t = qT ∧ x = 0 ∧ ∃ (q : List VxD) (n : Nat), rows = q.map VxD.row ∧ y = n ∧ n ≤ m ∧ m ≤ q.length ∧ q.length < 2000000 ∧ HpAt q n 0 ∧ ∀ (q' : List VxD) (b : Bool), q'.length = q.length → Sunk q q' n → Hp q' n → K (B b) [.cells [.sub 1 0 m], .arr 4 (q'.map VxD.row)] []
  | _, _ => False⟩
theorem sib_of {l : List VxD} {n i : Nat} {b : VxD} (hb : l[2 * i + 1]? = some b) {P : VxD → Prop} (h1 : P b) (h2 : 2 * i + 2 < n → ∀ c, l[2 * i + 2]? = some c → P c) : ∀ x v, 0 < x → x < n → (x - 1) / 2 = i → l[x]? = some v → P v := by
  intro x v hx0 hxn hp hv
  by_cases e : x = 2 * i + 1
  · subst e
    rw [hb] at hv
    cases hv
    exact h1
  · obtain rfl : x = 2 * i + 2 := by omega
    exact h2 hxn v hv
theorem leX_of_no {u v : VxD} (h : ltB v u = false) : leX u v := fun hlt => by rw [ltB_iff.2 hlt] at h; cases h
theorem k_container_heap_down : Keeps' Tryz.prog 117 c_heap_down := by
  refine keeps_of_vc mix TyT_ok (cok_meth (cok_meth (cok_cons k_impl_queue_Less Tryz.func145 rfl rfl (cok_cons k_impl_queue_Swap Tryz.func148 rfl rfl cok_nil)) m_Less) m_Swap) Tryz.func117 rfl rfl rfl ?_
  intro aargs hs Fs K h
  simp only [c_heap_down] at h
  split at h
  case h_3 => exact h.elim
  · rename_i t x y rows
    obtain ⟨rfl, rfl, q, n, rfl, rfl, hnq, hq, hat, h⟩ := h
    repeat' (first|((conv=>whnf); (first|refine brK_dec (fun _=>?_) (fun _=>?_)|refine brK_ndec (fun _=>?_) (fun _=>?_)|refine brK_not (fun _=>?_) (fun _=>?_)|refine brK_in (fun _=>?_) (fun _=>?_)|refine And.intro (by first|exact rfl|exact ⟨_,rfl,rfl⟩|exact ⟨rfl,rfl,rfl⟩|exact of_decide_eq_true rfl|exact trivial|assumption|omega|(show (_ ≤ _ ∧ _ ≤ _); omega)|(simp; omega)|exact ⟨by first|omega|(simp; omega),_,rfl,rfl⟩) ?_|refine Quo.l (And.intro (by first|exact rfl|assumption|omega|(simp; omega)) ?_)|refine Quo.r (And.intro (by omega) ?_)|refine Both.mk ?_ ?_|refine Exists.intro _ (And.intro rfl ?_)|refine vrow_use (by assumption) ?_|refine opt_use (by assumption) ?_|refine fun _=>?_))|exact rfl)
    refine loop_in (ι := List VxD × Nat) (fun g => mkS 48 [(0, .ifp qT 0 0), (1, I 0), (2, I n), (6, B false), (7, I g.2)] [.cells [.own 1], .arr 4 (g.1.map VxD.row)] Fs) (fun g => g.1.length = q.length ∧ Sunk q g.1 n ∧ HpAt g.1 n g.2 ∧ g.2 ≤ n) (fun g => n - g.2) (q, 0) [0, 1] ⟨rfl, sunk_refl, hat, Nat.zero_le _⟩ ?_ ?_
    · repeat' (first|((conv=>whnf); (first|refine brK_dec (fun _=>?_) (fun _=>?_)|refine brK_ndec (fun _=>?_) (fun _=>?_)|refine brK_not (fun _=>?_) (fun _=>?_)|refine brK_in (fun _=>?_) (fun _=>?_)|refine And.intro (by first|exact rfl|exact ⟨_,rfl,rfl⟩|exact ⟨rfl,rfl,rfl⟩|exact of_decide_eq_true rfl|exact trivial|assumption|omega|(show (_ ≤ _ ∧ _ ≤ _); omega)|(simp; omega)|exact ⟨by first|omega|(simp; omega),_,rfl,rfl⟩) ?_|refine Quo.l (And.intro (by first|exact rfl|assumption|omega|(simp; omega)) ?_)|refine Quo.r (And.intro (by omega) ?_)|refine Both.mk ?_ ?_|refine Exists.intro _ (And.intro rfl ?_)|refine vrow_use (by assumption) ?_|refine opt_use (by assumption) ?_|refine fun _=>?_))|exact rfl)
    rintro ⟨q1, i⟩ ⟨hl, hsk, hat, hin⟩
    dsimp only at hl hsk hat hin ⊢
    have hlen : (q1.map VxD.row).length = q1.length := by simp
    have hls : ∀ (x y : Nat) (u v : VxD), (((q1.set x u).set y v).map VxD.row).length = (q1.map VxD.row).length := fun x y u v => by simp
    rcases Nat.lt_or_ge (2 * i + 1) n with h1 | h1
    rotate_left
    · repeat' (first|((conv=>whnf); (first|refine brK_dec (fun _=>?_) (fun _=>?_)|refine brK_ndec (fun _=>?_) (fun _=>?_)|refine brK_not (fun _=>?_) (fun _=>?_)|refine brK_in (fun _=>?_) (fun _=>?_)|refine And.intro (by first|exact rfl|exact ⟨_,rfl,rfl⟩|exact ⟨rfl,rfl,rfl⟩|exact of_decide_eq_true rfl|exact trivial|assumption|omega|(show (_ ≤ _ ∧ _ ≤ _); omega)|(simp; omega)|exact ⟨by first|omega|(simp; omega),_,rfl,rfl⟩) ?_|refine Quo.l (And.intro (by first|exact rfl|assumption|omega|(simp; omega)) ?_)|refine Quo.r (And.intro (by omega) ?_)|refine Both.mk ?_ ?_|refine Exists.intro _ (And.intro rfl ?_)|refine vrow_use (by assumption) ?_|refine opt_use (by assumption) ?_|refine fun _=>?_))|exact rfl)
      · exact h q1 _ hl hsk (hp_leaf hat h1)
      · omega
      · omega
    obtain ⟨a, ha⟩ : ∃ a, q1[i]? = some a := ⟨_, List.getElem?_eq_getElem (by omega)⟩
    obtain ⟨b, hb⟩ : ∃ b, q1[2 * i + 1]? = some b := ⟨_, List.getElem?_eq_getElem (by omega)⟩
    have e1 : 2 * (i : Int) + 1 = ((2 * i + 1 : Nat) : Int) := by omega
    have e2 : 2 * (i : Int) + 1 + 1 = ((2 * i + 2 : Nat) : Int) := by omega
    have q0 : ((q1.length : Nat) : Int) = q1.length := by omega
    rcases Nat.lt_or_ge (2 * i + 2) n with h2 | h2
    · obtain ⟨c, hc⟩ : ∃ c, q1[2 * i + 2]? = some c := ⟨_, List.getElem?_eq_getElem (by omega)⟩
      repeat' (first|((conv=>whnf); (first|refine Exists.intro (q1) (And.intro rfl (Exists.intro (2 * i + 2) (Exists.intro (2 * i + 1) (Exists.intro c (Exists.intro b (And.intro e2 (And.intro e1 (And.intro hc (And.intro hb ?_)))))))))|refine Exists.intro (q1) (And.intro rfl (Exists.intro (2 * i + 2) (Exists.intro i (Exists.intro c (Exists.intro a (And.intro e2 (And.intro rfl (And.intro hc (And.intro ha ?_)))))))))|refine Exists.intro (q1) (And.intro rfl (Exists.intro (2 * i + 1) (Exists.intro i (Exists.intro b (Exists.intro a (And.intro e1 (And.intro rfl (And.intro hb (And.intro ha ?_)))))))))|refine brK_dec (fun _=>?_) (fun _=>?_)|refine brK_ndec (fun _=>?_) (fun _=>?_)|refine brK_not (fun _=>?_) (fun _=>?_)|refine brK_in (fun _=>?_) (fun _=>?_)|refine And.intro (by first|exact rfl|exact ⟨_,rfl,rfl⟩|exact ⟨rfl,rfl,rfl⟩|exact of_decide_eq_true rfl|exact trivial|assumption|omega|(show (_ ≤ _ ∧ _ ≤ _); omega)|(simp; omega)|exact ⟨by first|omega|(simp; omega),_,rfl,rfl⟩) ?_|refine Quo.l (And.intro (by first|exact rfl|assumption|omega|(simp; omega)) ?_)|refine Quo.r (And.intro (by omega) ?_)|refine Both.mk ?_ ?_|refine Exists.intro _ (And.intro rfl ?_)|refine vrow_use (by assumption) ?_|refine opt_use (by assumption) ?_|refine fun _=>?_))|exact rfl)
      · omega
      · rename_i ec ea
        exact h q1 _ hl hsk (hp_stop hat ha (sib_of hb (leX_trans (leX_of_no ea) (leX_of_lt (ltB_iff.1 ec))) fun _ c' hc' => by rw [hc] at hc'; cases hc'; exact leX_of_no ea))
      · rename_i ec hlt
        refine ⟨i, 2 * i + 2, a, c, rfl, e2, ha, hc, by omega, ?_⟩
        repeat' (first|((conv=>whnf); (first|refine Exists.intro (q1) (And.intro rfl (Exists.intro (2 * i + 2) (Exists.intro (2 * i + 1) (Exists.intro c (Exists.intro b (And.intro e2 (And.intro e1 (And.intro hc (And.intro hb ?_)))))))))|refine Exists.intro (q1) (And.intro rfl (Exists.intro (2 * i + 2) (Exists.intro i (Exists.intro c (Exists.intro a (And.intro e2 (And.intro rfl (And.intro hc (And.intro ha ?_)))))))))|refine Exists.intro (q1) (And.intro rfl (Exists.intro (2 * i + 1) (Exists.intro i (Exists.intro b (Exists.intro a (And.intro e1 (And.intro rfl (And.intro hb (And.intro ha ?_)))))))))|refine brK_dec (fun _=>?_) (fun _=>?_)|refine brK_ndec (fun _=>?_) (fun _=>?_)|refine brK_not (fun _=>?_) (fun _=>?_)|refine brK_in (fun _=>?_) (fun _=>?_)|refine And.intro (by first|exact rfl|exact (hls _ _ _ _)|exact ⟨_,rfl,rfl⟩|exact ⟨rfl,rfl,rfl⟩|exact of_decide_eq_true rfl|exact trivial|assumption|omega|(show (_ ≤ _ ∧ _ ≤ _); omega)|(simp; omega)|exact ⟨by first|omega|(simp; omega),_,rfl,rfl⟩) ?_|refine Quo.l (And.intro (by first|exact rfl|exact (hls _ _ _ _)|assumption|omega|(simp; omega)) ?_)|refine Quo.r (And.intro (by omega) ?_)|refine Both.mk ?_ ?_|refine Exists.intro _ (And.intro rfl ?_)|refine vrow_use (by assumption) ?_|refine opt_use (by assumption) ?_|refine fun _=>?_))|exact rfl)
        refine ⟨((q1.set i c).set (2 * i + 2) a, 2 * i + 2), [0, 1], ⟨by simpa using hl, sunk_swap hsk ha hc (by omega) (by omega), hp_swap hat (by omega) (by omega) (by omega) ha hc (ltB_iff.1 hlt) (sib_of hb (leX_of_lt (ltB_iff.1 ec)) fun _ c' hc' => by rw [hc] at hc'; cases hc'; exact leX_refl _), by dsimp only; omega⟩, by dsimp only; omega, ?_⟩
        repeat' (first|((conv=>whnf); (first|refine Exists.intro (q1) (And.intro rfl (Exists.intro (2 * i + 2) (Exists.intro (2 * i + 1) (Exists.intro c (Exists.intro b (And.intro e2 (And.intro e1 (And.intro hc (And.intro hb ?_)))))))))|refine Exists.intro (q1) (And.intro rfl (Exists.intro (2 * i + 2) (Exists.intro i (Exists.intro c (Exists.intro a (And.intro e2 (And.intro rfl (And.intro hc (And.intro ha ?_)))))))))|refine Exists.intro (q1) (And.intro rfl (Exists.intro (2 * i + 1) (Exists.intro i (Exists.intro b (Exists.intro a (And.intro e1 (And.intro rfl (And.intro hb (And.intro ha ?_)))))))))|refine brK_dec (fun _=>?_) (fun _=>?_)|refine brK_ndec (fun _=>?_) (fun _=>?_)|refine brK_not (fun _=>?_) (fun _=>?_)|refine brK_in (fun _=>?_) (fun _=>?_)|refine And.intro (by first|exact rfl|exact (by first|exact e2|exact e2.symm)|exact ⟨_,rfl,rfl⟩|exact ⟨rfl,rfl,rfl⟩|exact of_decide_eq_true rfl|exact trivial|assumption|omega|(show (_ ≤ _ ∧ _ ≤ _); omega)|(simp; omega)|exact ⟨by first|omega|(simp; omega),_,rfl,rfl⟩) ?_|refine Quo.l (And.intro (by first|exact rfl|exact (by first|exact e2|exact e2.symm)|assumption|omega|(simp; omega)) ?_)|refine Quo.r (And.intro (by omega) ?_)|refine Both.mk ?_ ?_|refine Exists.intro _ (And.intro rfl ?_)|refine vrow_use (by assumption) ?_|refine opt_use (by assumption) ?_|refine fun _=>?_))|exact rfl)
      · rename_i ec ea
        exact h q1 _ hl hsk (hp_stop hat ha (sib_of hb (leX_of_no ea) fun _ c' hc' => by rw [hc] at hc'; cases hc'; exact leX_trans (leX_of_no ea) (leX_of_no ec)))
      · rename_i ec hlt
        refine ⟨i, 2 * i + 1, a, b, rfl, e1, ha, hb, by omega, ?_⟩
        repeat' (first|((conv=>whnf); (first|refine Exists.intro (q1) (And.intro rfl (Exists.intro (2 * i + 2) (Exists.intro (2 * i + 1) (Exists.intro c (Exists.intro b (And.intro e2 (And.intro e1 (And.intro hc (And.intro hb ?_)))))))))|refine Exists.intro (q1) (And.intro rfl (Exists.intro (2 * i + 2) (Exists.intro i (Exists.intro c (Exists.intro a (And.intro e2 (And.intro rfl (And.intro hc (And.intro ha ?_)))))))))|refine Exists.intro (q1) (And.intro rfl (Exists.intro (2 * i + 1) (Exists.intro i (Exists.intro b (Exists.intro a (And.intro e1 (And.intro rfl (And.intro hb (And.intro ha ?_)))))))))|refine brK_dec (fun _=>?_) (fun _=>?_)|refine brK_ndec (fun _=>?_) (fun _=>?_)|refine brK_not (fun _=>?_) (fun _=>?_)|refine brK_in (fun _=>?_) (fun _=>?_)|refine And.intro (by first|exact rfl|exact (hls _ _ _ _)|exact ⟨_,rfl,rfl⟩|exact ⟨rfl,rfl,rfl⟩|exact of_decide_eq_true rfl|exact trivial|assumption|omega|(show (_ ≤ _ ∧ _ ≤ _); omega)|(simp; omega)|exact ⟨by first|omega|(simp; omega),_,rfl,rfl⟩) ?_|refine Quo.l (And.intro (by first|exact rfl|exact (hls _ _ _ _)|assumption|omega|(simp; omega)) ?_)|refine Quo.r (And.intro (by omega) ?_)|refine Both.mk ?_ ?_|refine Exists.intro _ (And.intro rfl ?_)|refine vrow_use (by assumption) ?_|refine opt_use (by assumption) ?_|refine fun _=>?_))|exact rfl)
        refine ⟨((q1.set i b).set (2 * i + 1) a, 2 * i + 1), [0, 1], ⟨by simpa using hl, sunk_swap hsk ha hb (by omega) (by omega), hp_swap hat (by omega) (by omega) (by omega) ha hb (ltB_iff.1 hlt) (sib_of hb (leX_refl _) fun _ c' hc' => by rw [hc] at hc'; cases hc'; exact leX_of_no ec), by dsimp only; omega⟩, by dsimp only; omega, ?_⟩
        repeat' (first|((conv=>whnf); (first|refine Exists.intro (q1) (And.intro rfl (Exists.intro (2 * i + 2) (Exists.intro (2 * i + 1) (Exists.intro c (Exists.intro b (And.intro e2 (And.intro e1 (And.intro hc (And.intro hb ?_)))))))))|refine Exists.intro (q1) (And.intro rfl (Exists.intro (2 * i + 2) (Exists.intro i (Exists.intro c (Exists.intro a (And.intro e2 (And.intro rfl (And.intro hc (And.intro ha ?_)))))))))|refine Exists.intro (q1) (And.intro rfl (Exists.intro (2 * i + 1) (Exists.intro i (Exists.intro b (Exists.intro a (And.intro e1 (And.intro rfl (And.intro hb (And.intro ha ?_)))))))))|refine brK_dec (fun _=>?_) (fun _=>?_)|refine brK_ndec (fun _=>?_) (fun _=>?_)|refine brK_not (fun _=>?_) (fun _=>?_)|refine brK_in (fun _=>?_) (fun _=>?_)|refine And.intro (by first|exact rfl|exact (by first|exact e1|exact e1.symm)|exact ⟨_,rfl,rfl⟩|exact ⟨rfl,rfl,rfl⟩|exact of_decide_eq_true rfl|exact trivial|assumption|omega|(show (_ ≤ _ ∧ _ ≤ _); omega)|(simp; omega)|exact ⟨by first|omega|(simp; omega),_,rfl,rfl⟩) ?_|refine Quo.l (And.intro (by first|exact rfl|exact (by first|exact e1|exact e1.symm)|assumption|omega|(simp; omega)) ?_)|refine Quo.r (And.intro (by omega) ?_)|refine Both.mk ?_ ?_|refine Exists.intro _ (And.intro rfl ?_)|refine vrow_use (by assumption) ?_|refine opt_use (by assumption) ?_|refine fun _=>?_))|exact rfl)
      · omega
      · omega
    · repeat' (first|((conv=>whnf); (first|refine Exists.intro (q1) (And.intro rfl (Exists.intro (2 * i + 2) (Exists.intro (2 * i + 1) (Exists.intro c (Exists.intro b (And.intro e2 (And.intro e1 (And.intro hc (And.intro hb ?_)))))))))|refine Exists.intro (q1) (And.intro rfl (Exists.intro (2 * i + 2) (Exists.intro i (Exists.intro c (Exists.intro a (And.intro e2 (And.intro rfl (And.intro hc (And.intro ha ?_)))))))))|refine Exists.intro (q1) (And.intro rfl (Exists.intro (2 * i + 1) (Exists.intro i (Exists.intro b (Exists.intro a (And.intro e1 (And.intro rfl (And.intro hb (And.intro ha ?_)))))))))|refine brK_dec (fun _=>?_) (fun _=>?_)|refine brK_ndec (fun _=>?_) (fun _=>?_)|refine brK_not (fun _=>?_) (fun _=>?_)|refine brK_in (fun _=>?_) (fun _=>?_)|refine And.intro (by first|exact rfl|exact ⟨_,rfl,rfl⟩|exact ⟨rfl,rfl,rfl⟩|exact of_decide_eq_true rfl|exact trivial|assumption|omega|(show (_ ≤ _ ∧ _ ≤ _); omega)|(simp; omega)|exact ⟨by first|omega|(simp; omega),_,rfl,rfl⟩) ?_|refine Quo.l (And.intro (by first|exact rfl|assumption|omega|(simp; omega)) ?_)|refine Quo.r (And.intro (by omega) ?_)|refine Both.mk ?_ ?_|refine Exists.intro _ (And.intro rfl ?_)|refine vrow_use (by assumption) ?_|refine opt_use (by assumption) ?_|refine fun _=>?_))|exact rfl)
      · omega
      · omega
      · rename_i ea
        exact h q1 _ hl hsk (hp_stop hat ha (sib_of hb (leX_of_no ea) fun hx => by omega))
      · rename_i hlt
        refine ⟨i, 2 * i + 1, a, b, rfl, e1, ha, hb, by omega, ?_⟩
        repeat' (first|((conv=>whnf); (first|refine Exists.intro (q1) (And.intro rfl (Exists.intro (2 * i + 2) (Exists.intro (2 * i + 1) (Exists.intro c (Exists.intro b (And.intro e2 (And.intro e1 (And.intro hc (And.intro hb ?_)))))))))|refine Exists.intro (q1) (And.intro rfl (Exists.intro (2 * i + 2) (Exists.intro i (Exists.intro c (Exists.intro a (And.intro e2 (And.intro rfl (And.intro hc (And.intro ha ?_)))))))))|refine Exists.intro (q1) (And.intro rfl (Exists.intro (2 * i + 1) (Exists.intro i (Exists.intro b (Exists.intro a (And.intro e1 (And.intro rfl (And.intro hb (And.intro ha ?_)))))))))|refine brK_dec (fun _=>?_) (fun _=>?_)|refine brK_ndec (fun _=>?_) (fun _=>?_)|refine brK_not (fun _=>?_) (fun _=>?_)|refine brK_in (fun _=>?_) (fun _=>?_)|refine And.intro (by first|exact rfl|exact (hls _ _ _ _)|exact ⟨_,rfl,rfl⟩|exact ⟨rfl,rfl,rfl⟩|exact of_decide_eq_true rfl|exact trivial|assumption|omega|(show (_ ≤ _ ∧ _ ≤ _); omega)|(simp; omega)|exact ⟨by first|omega|(simp; omega),_,rfl,rfl⟩) ?_|refine Quo.l (And.intro (by first|exact rfl|exact (hls _ _ _ _)|assumption|omega|(simp; omega)) ?_)|refine Quo.r (And.intro (by omega) ?_)|refine Both.mk ?_ ?_|refine Exists.intro _ (And.intro rfl ?_)|refine vrow_use (by assumption) ?_|refine opt_use (by assumption) ?_|refine fun _=>?_))|exact rfl)
        refine ⟨((q1.set i b).set (2 * i + 1) a, 2 * i + 1), [0, 1], ⟨by simpa using hl, sunk_swap hsk ha hb (by omega) (by omega), hp_swap hat (by omega) (by omega) (by omega) ha hb (ltB_iff.1 hlt) (sib_of hb (leX_refl _) fun hx => by omega), by dsimp only; omega⟩, by dsimp only; omega, ?_⟩
        repeat' (first|((conv=>whnf); (first|refine Exists.intro (q1) (And.intro rfl (Exists.intro (2 * i + 2) (Exists.intro (2 * i + 1) (Exists.intro c (Exists.intro b (And.intro e2 (And.intro e1 (And.intro hc (And.intro hb ?_)))))))))|refine Exists.intro (q1) (And.intro rfl (Exists.intro (2 * i + 2) (Exists.intro i (Exists.intro c (Exists.intro a (And.intro e2 (And.intro rfl (And.intro hc (And.intro ha ?_)))))))))|refine Exists.intro (q1) (And.intro rfl (Exists.intro (2 * i + 1) (Exists.intro i (Exists.intro b (Exists.intro a (And.intro e1 (And.intro rfl (And.intro hb (And.intro ha ?_)))))))))|refine brK_dec (fun _=>?_) (fun _=>?_)|refine brK_ndec (fun _=>?_) (fun _=>?_)|refine brK_not (fun _=>?_) (fun _=>?_)|refine brK_in (fun _=>?_) (fun _=>?_)|refine And.intro (by first|exact rfl|exact (by first|exact e1|exact e1.symm)|exact ⟨_,rfl,rfl⟩|exact ⟨rfl,rfl,rfl⟩|exact of_decide_eq_true rfl|exact trivial|assumption|omega|(show (_ ≤ _ ∧ _ ≤ _); omega)|(simp; omega)|exact ⟨by first|omega|(simp; omega),_,rfl,rfl⟩) ?_|refine Quo.l (And.intro (by first|exact rfl|exact (by first|exact e1|exact e1.symm)|assumption|omega|(simp; omega)) ?_)|refine Quo.r (And.intro (by omega) ?_)|refine Both.mk ?_ ?_|refine Exists.intro _ (And.intro rfl ?_)|refine vrow_use (by assumption) ?_|refine opt_use (by assumption) ?_|refine fun _=>?_))|exact rfl)
  · rename_i t x y m rows
    obtain ⟨rfl, rfl, q, n, rfl, rfl, hnm, hmq, hq, hat, h⟩ := h
    have hnq : n ≤ q.length := by omega
    repeat' (first|((conv=>whnf); (first|refine brK_dec (fun _=>?_) (fun _=>?_)|refine brK_ndec (fun _=>?_) (fun _=>?_)|refine brK_not (fun _=>?_) (fun _=>?_)|refine brK_in (fun _=>?_) (fun _=>?_)|refine And.intro (by first|exact rfl|exact ⟨_,rfl,rfl⟩|exact ⟨rfl,rfl,rfl⟩|exact of_decide_eq_true rfl|exact trivial|assumption|omega|(show (_ ≤ _ ∧ _ ≤ _); omega)|(simp; omega)|exact ⟨by first|omega|(simp; omega),_,rfl,rfl⟩) ?_|refine Quo.l (And.intro (by first|exact rfl|assumption|omega|(simp; omega)) ?_)|refine Quo.r (And.intro (by omega) ?_)|refine Both.mk ?_ ?_|refine Exists.intro _ (And.intro rfl ?_)|refine vrow_use (by assumption) ?_|refine opt_use (by assumption) ?_|refine fun _=>?_))|exact rfl)
    refine loop_in (ι := List VxD × Nat) (fun g => mkS 48 [(0, .ifp qT 0 0), (1, I 0), (2, I n), (6, B false), (7, I g.2)] [.cells [.sub 1 0 m], .arr 4 (g.1.map VxD.row)] Fs) (fun g => g.1.length = q.length ∧ Sunk q g.1 n ∧ HpAt g.1 n g.2 ∧ g.2 ≤ n) (fun g => n - g.2) (q, 0) [0, 1] ⟨rfl, sunk_refl, hat, Nat.zero_le _⟩ ?_ ?_
    · repeat' (first|((conv=>whnf); (first|refine brK_dec (fun _=>?_) (fun _=>?_)|refine brK_ndec (fun _=>?_) (fun _=>?_)|refine brK_not (fun _=>?_) (fun _=>?_)|refine brK_in (fun _=>?_) (fun _=>?_)|refine And.intro (by first|exact rfl|exact ⟨_,rfl,rfl⟩|exact ⟨rfl,rfl,rfl⟩|exact of_decide_eq_true rfl|exact trivial|assumption|omega|(show (_ ≤ _ ∧ _ ≤ _); omega)|(simp; omega)|exact ⟨by first|omega|(simp; omega),_,rfl,rfl⟩) ?_|refine Quo.l (And.intro (by first|exact rfl|assumption|omega|(simp; omega)) ?_)|refine Quo.r (And.intro (by omega) ?_)|refine Both.mk ?_ ?_|refine Exists.intro _ (And.intro rfl ?_)|refine vrow_use (by assumption) ?_|refine opt_use (by assumption) ?_|refine fun _=>?_))|exact rfl)
    rintro ⟨q1, i⟩ ⟨hl, hsk, hat, hin⟩
    dsimp only at hl hsk hat hin ⊢
    have hlen : (q1.map VxD.row).length = q1.length := by simp
    have hls : ∀ (x y : Nat) (u v : VxD), (((q1.set x u).set y v).map VxD.row).length = (q1.map VxD.row).length := fun x y u v => by simp
    rcases Nat.lt_or_ge (2 * i + 1) n with h1 | h1
    rotate_left
    · repeat' (first|((conv=>whnf); (first|refine brK_dec (fun _=>?_) (fun _=>?_)|refine brK_ndec (fun _=>?_) (fun _=>?_)|refine brK_not (fun _=>?_) (fun _=>?_)|refine brK_in (fun _=>?_) (fun _=>?_)|refine And.intro (by first|exact rfl|exact ⟨_,rfl,rfl⟩|exact ⟨rfl,rfl,rfl⟩|exact of_decide_eq_true rfl|exact trivial|assumption|omega|(show (_ ≤ _ ∧ _ ≤ _); omega)|(simp; omega)|exact ⟨by first|omega|(simp; omega),_,rfl,rfl⟩) ?_|refine Quo.l (And.intro (by first|exact rfl|assumption|omega|(simp; omega)) ?_)|refine Quo.r (And.intro (by omega) ?_)|refine Both.mk ?_ ?_|refine Exists.intro _ (And.intro rfl ?_)|refine vrow_use (by assumption) ?_|refine opt_use (by assumption) ?_|refine fun _=>?_))|exact rfl)
      · exact h q1 _ hl hsk (hp_leaf hat h1)
      · omega
      · omega
    obtain ⟨a, ha⟩ : ∃ a, q1[i]? = some a := ⟨_, List.getElem?_eq_getElem (by omega)⟩
    obtain ⟨b, hb⟩ : ∃ b, q1[2 * i + 1]? = some b := ⟨_, List.getElem?_eq_getElem (by omega)⟩
    have e1 : 2 * (i : Int) + 1 = ((2 * i + 1 : Nat) : Int) := by omega
    have e2 : 2 * (i : Int) + 1 + 1 = ((2 * i + 2 : Nat) : Int) := by omega
    have hv1 : (List.take (m - 0) (List.drop 0 (q1.map VxD.row))) = (q1.take m).map VxD.row := by simp
    have hb3 : (q1.take m)[2 * i + 1]? = some b := by rw [List.getElem?_take, if_pos (by omega)]; exact hb
    have ha3 : (q1.take m)[i]? = some a := by rw [List.getElem?_take, if_pos (by omega)]; exact ha
    have q0 : ((m - 0 : Nat) : Int) = m := by omega
    rcases Nat.lt_or_ge (2 * i + 2) n with h2 | h2
    · obtain ⟨c, hc⟩ : ∃ c, q1[2 * i + 2]? = some c := ⟨_, List.getElem?_eq_getElem (by omega)⟩
      have hc3 : (q1.take m)[2 * i + 2]? = some c := by rw [List.getElem?_take, if_pos (by omega)]; exact hc
      repeat' (first|((conv=>whnf); (first|refine Exists.intro (q1.take m) (And.intro hv1 (Exists.intro (2 * i + 2) (Exists.intro (2 * i + 1) (Exists.intro c (Exists.intro b (And.intro e2 (And.intro e1 (And.intro hc3 (And.intro hb3 ?_)))))))))|refine Exists.intro (q1.take m) (And.intro hv1 (Exists.intro (2 * i + 2) (Exists.intro i (Exists.intro c (Exists.intro a (And.intro e2 (And.intro rfl (And.intro hc3 (And.intro ha3 ?_)))))))))|refine Exists.intro (q1.take m) (And.intro hv1 (Exists.intro (2 * i + 1) (Exists.intro i (Exists.intro b (Exists.intro a (And.intro e1 (And.intro rfl (And.intro hb3 (And.intro ha3 ?_)))))))))|refine brK_dec (fun _=>?_) (fun _=>?_)|refine brK_ndec (fun _=>?_) (fun _=>?_)|refine brK_not (fun _=>?_) (fun _=>?_)|refine brK_in (fun _=>?_) (fun _=>?_)|refine And.intro (by first|exact rfl|exact ⟨_,rfl,rfl⟩|exact ⟨rfl,rfl,rfl⟩|exact of_decide_eq_true rfl|exact trivial|assumption|omega|(show (_ ≤ _ ∧ _ ≤ _); omega)|(simp; omega)|exact ⟨by first|omega|(simp; omega),_,rfl,rfl⟩) ?_|refine Quo.l (And.intro (by first|exact rfl|assumption|omega|(simp; omega)) ?_)|refine Quo.r (And.intro (by omega) ?_)|refine Both.mk ?_ ?_|refine Exists.intro _ (And.intro rfl ?_)|refine vrow_use (by assumption) ?_|refine opt_use (by assumption) ?_|refine fun _=>?_))|exact rfl)
      · omega
      · rename_i ec ea
        exact h q1 _ hl hsk (hp_stop hat ha (sib_of hb (leX_trans (leX_of_no ea) (leX_of_lt (ltB_iff.1 ec))) fun _ c' hc' => by rw [hc] at hc'; cases hc'; exact leX_of_no ea))
      · rename_i ec hlt
        refine ⟨i, 2 * i + 2, a, c, rfl, e2, by omega, by omega, ha, hc, by omega, ?_⟩
        repeat' (first|((conv=>whnf); (first|refine Exists.intro (q1.take m) (And.intro hv1 (Exists.intro (2 * i + 2) (Exists.intro (2 * i + 1) (Exists.intro c (Exists.intro b (And.intro e2 (And.intro e1 (And.intro hc3 (And.intro hb3 ?_)))))))))|refine Exists.intro (q1.take m) (And.intro hv1 (Exists.intro (2 * i + 2) (Exists.intro i (Exists.intro c (Exists.intro a (And.intro e2 (And.intro rfl (And.intro hc3 (And.intro ha3 ?_)))))))))|refine Exists.intro (q1.take m) (And.intro hv1 (Exists.intro (2 * i + 1) (Exists.intro i (Exists.intro b (Exists.intro a (And.intro e1 (And.intro rfl (And.intro hb3 (And.intro ha3 ?_)))))))))|refine brK_dec (fun _=>?_) (fun _=>?_)|refine brK_ndec (fun _=>?_) (fun _=>?_)|refine brK_not (fun _=>?_) (fun _=>?_)|refine brK_in (fun _=>?_) (fun _=>?_)|refine And.intro (by first|exact rfl|exact (hls _ _ _ _)|exact ⟨_,rfl,rfl⟩|exact ⟨rfl,rfl,rfl⟩|exact of_decide_eq_true rfl|exact trivial|assumption|omega|(show (_ ≤ _ ∧ _ ≤ _); omega)|(simp; omega)|exact ⟨by first|omega|(simp; omega),_,rfl,rfl⟩) ?_|refine Quo.l (And.intro (by first|exact rfl|exact (hls _ _ _ _)|assumption|omega|(simp; omega)) ?_)|refine Quo.r (And.intro (by omega) ?_)|refine Both.mk ?_ ?_|refine Exists.intro _ (And.intro rfl ?_)|refine vrow_use (by assumption) ?_|refine opt_use (by assumption) ?_|refine fun _=>?_))|exact rfl)
        refine ⟨((q1.set i c).set (2 * i + 2) a, 2 * i + 2), [0, 1], ⟨by simpa using hl, sunk_swap hsk ha hc (by omega) (by omega), hp_swap hat (by omega) (by omega) (by omega) ha hc (ltB_iff.1 hlt) (sib_of hb (leX_of_lt (ltB_iff.1 ec)) fun _ c' hc' => by rw [hc] at hc'; cases hc'; exact leX_refl _), by dsimp only; omega⟩, by dsimp only; omega, ?_⟩
        repeat' (first|((conv=>whnf); (first|refine Exists.intro (q1.take m) (And.intro hv1 (Exists.intro (2 * i + 2) (Exists.intro (2 * i + 1) (Exists.intro c (Exists.intro b (And.intro e2 (And.intro e1 (And.intro hc3 (And.intro hb3 ?_)))))))))|refine Exists.intro (q1.take m) (And.intro hv1 (Exists.intro (2 * i + 2) (Exists.intro i (Exists.intro c (Exists.intro a (And.intro e2 (And.intro rfl (And.intro hc3 (And.intro ha3 ?_)))))))))|refine Exists.intro (q1.take m) (And.intro hv1 (Exists.intro (2 * i + 1) (Exists.intro i (Exists.intro b (Exists.intro a (And.intro e1 (And.intro rfl (And.intro hb3 (And.intro ha3 ?_)))))))))|refine brK_dec (fun _=>?_) (fun _=>?_)|refine brK_ndec (fun _=>?_) (fun _=>?_)|refine brK_not (fun _=>?_) (fun _=>?_)|refine brK_in (fun _=>?_) (fun _=>?_)|refine And.intro (by first|exact rfl|exact (by first|exact e2|exact e2.symm)|exact ⟨_,rfl,rfl⟩|exact ⟨rfl,rfl,rfl⟩|exact of_decide_eq_true rfl|exact trivial|assumption|omega|(show (_ ≤ _ ∧ _ ≤ _); omega)|(simp; omega)|exact ⟨by first|omega|(simp; omega),_,rfl,rfl⟩) ?_|refine Quo.l (And.intro (by first|exact rfl|exact (by first|exact e2|exact e2.symm)|assumption|omega|(simp; omega)) ?_)|refine Quo.r (And.intro (by omega) ?_)|refine Both.mk ?_ ?_|refine Exists.intro _ (And.intro rfl ?_)|refine vrow_use (by assumption) ?_|refine opt_use (by assumption) ?_|refine fun _=>?_))|exact rfl)
      · rename_i ec ea
        exact h q1 _ hl hsk (hp_stop hat ha (sib_of hb (leX_of_no ea) fun _ c' hc' => by rw [hc] at hc'; cases hc'; exact leX_trans (leX_of_no ea) (leX_of_no ec)))
      · rename_i ec hlt
        refine ⟨i, 2 * i + 1, a, b, rfl, e1, by omega, by omega, ha, hb, by omega, ?_⟩
        repeat' (first|((conv=>whnf); (first|refine Exists.intro (q1.take m) (And.intro hv1 (Exists.intro (2 * i + 2) (Exists.intro (2 * i + 1) (Exists.intro c (Exists.intro b (And.intro e2 (And.intro e1 (And.intro hc3 (And.intro hb3 ?_)))))))))|refine Exists.intro (q1.take m) (And.intro hv1 (Exists.intro (2 * i + 2) (Exists.intro i (Exists.intro c (Exists.intro a (And.intro e2 (And.intro rfl (And.intro hc3 (And.intro ha3 ?_)))))))))|refine Exists.intro (q1.take m) (And.intro hv1 (Exists.intro (2 * i + 1) (Exists.intro i (Exists.intro b (Exists.intro a (And.intro e1 (And.intro rfl (And.intro hb3 (And.intro ha3 ?_)))))))))|refine brK_dec (fun _=>?_) (fun _=>?_)|refine brK_ndec (fun _=>?_) (fun _=>?_)|refine brK_not (fun _=>?_) (fun _=>?_)|refine brK_in (fun _=>?_) (fun _=>?_)|refine And.intro (by first|exact rfl|exact (hls _ _ _ _)|exact ⟨_,rfl,rfl⟩|exact ⟨rfl,rfl,rfl⟩|exact of_decide_eq_true rfl|exact trivial|assumption|omega|(show (_ ≤ _ ∧ _ ≤ _); omega)|(simp; omega)|exact ⟨by first|omega|(simp; omega),_,rfl,rfl⟩) ?_|refine Quo.l (And.intro (by first|exact rfl|exact (hls _ _ _ _)|assumption|omega|(simp; omega)) ?_)|refine Quo.r (And.intro (by omega) ?_)|refine Both.mk ?_ ?_|refine Exists.intro _ (And.intro rfl ?_)|refine vrow_use (by assumption) ?_|refine opt_use (by assumption) ?_|refine fun _=>?_))|exact rfl)
        refine ⟨((q1.set i b).set (2 * i + 1) a, 2 * i + 1), [0, 1], ⟨by simpa using hl, sunk_swap hsk ha hb (by omega) (by omega), hp_swap hat (by omega) (by omega) (by omega) ha hb (ltB_iff.1 hlt) (sib_of hb (leX_refl _) fun _ c' hc' => by rw [hc] at hc'; cases hc'; exact leX_of_no ec), by dsimp only; omega⟩, by dsimp only; omega, ?_⟩
        repeat' (first|((conv=>whnf); (first|refine Exists.intro (q1.take m) (And.intro hv1 (Exists.intro (2 * i + 2) (Exists.intro (2 * i + 1) (Exists.intro c (Exists.intro b (And.intro e2 (And.intro e1 (And.intro hc3 (And.intro hb3 ?_)))))))))|refine Exists.intro (q1.take m) (And.intro hv1 (Exists.intro (2 * i + 2) (Exists.intro i (Exists.intro c (Exists.intro a (And.intro e2 (And.intro rfl (And.intro hc3 (And.intro ha3 ?_)))))))))|refine Exists.intro (q1.take m) (And.intro hv1 (Exists.intro (2 * i + 1) (Exists.intro i (Exists.intro b (Exists.intro a (And.intro e1 (And.intro rfl (And.intro hb3 (And.intro ha3 ?_)))))))))|refine brK_dec (fun _=>?_) (fun _=>?_)|refine brK_ndec (fun _=>?_) (fun _=>?_)|refine brK_not (fun _=>?_) (fun _=>?_)|refine brK_in (fun _=>?_) (fun _=>?_)|refine And.intro (by first|exact rfl|exact (by first|exact e1|exact e1.symm)|exact ⟨_,rfl,rfl⟩|exact ⟨rfl,rfl,rfl⟩|exact of_decide_eq_true rfl|exact trivial|assumption|omega|(show (_ ≤ _ ∧ _ ≤ _); omega)|(simp; omega)|exact ⟨by first|omega|(simp; omega),_,rfl,rfl⟩) ?_|refine Quo.l (And.intro (by first|exact rfl|exact (by first|exact e1|exact e1.symm)|assumption|omega|(simp; omega)) ?_)|refine Quo.r (And.intro (by omega) ?_)|refine Both.mk ?_ ?_|refine Exists.intro _ (And.intro rfl ?_)|refine vrow_use (by assumption) ?_|refine opt_use (by assumption) ?_|refine fun _=>?_))|exact rfl)
      · omega
      · omega
    · repeat' (first|((conv=>whnf); (first|refine Exists.intro (q1.take m) (And.intro hv1 (Exists.intro (2 * i + 2) (Exists.intro (2 * i + 1) (Exists.intro c (Exists.intro b (And.intro e2 (And.intro e1 (And.intro hc3 (And.intro hb3 ?_)))))))))|refine Exists.intro (q1.take m) (And.intro hv1 (Exists.intro (2 * i + 2) (Exists.intro i (Exists.intro c (Exists.intro a (And.intro e2 (And.intro rfl (And.intro hc3 (And.intro ha3 ?_)))))))))|refine Exists.intro (q1.take m) (And.intro hv1 (Exists.intro (2 * i + 1) (Exists.intro i (Exists.intro b (Exists.intro a (And.intro e1 (And.intro rfl (And.intro hb3 (And.intro ha3 ?_)))))))))|refine brK_dec (fun _=>?_) (fun _=>?_)|refine brK_ndec (fun _=>?_) (fun _=>?_)|refine brK_not (fun _=>?_) (fun _=>?_)|refine brK_in (fun _=>?_) (fun _=>?_)|refine And.intro (by first|exact rfl|exact ⟨_,rfl,rfl⟩|exact ⟨rfl,rfl,rfl⟩|exact of_decide_eq_true rfl|exact trivial|assumption|omega|(show (_ ≤ _ ∧ _ ≤ _); omega)|(simp; omega)|exact ⟨by first|omega|(simp; omega),_,rfl,rfl⟩) ?_|refine Quo.l (And.intro (by first|exact rfl|assumption|omega|(simp; omega)) ?_)|refine Quo.r (And.intro (by omega) ?_)|refine Both.mk ?_ ?_|refine Exists.intro _ (And.intro rfl ?_)|refine vrow_use (by assumption) ?_|refine opt_use (by assumption) ?_|refine fun _=>?_))|exact rfl)
      · omega
      · omega
      · rename_i ea
        exact h q1 _ hl hsk (hp_stop hat ha (sib_of hb (leX_of_no ea) fun hx => by omega))
      · rename_i hlt
        refine ⟨i, 2 * i + 1, a, b, rfl, e1, by omega, by omega, ha, hb, by omega, ?_⟩
        repeat' (first|((conv=>whnf); (first|refine Exists.intro (q1.take m) (And.intro hv1 (Exists.intro (2 * i + 2) (Exists.intro (2 * i + 1) (Exists.intro c (Exists.intro b (And.intro e2 (And.intro e1 (And.intro hc3 (And.intro hb3 ?_)))))))))|refine Exists.intro (q1.take m) (And.intro hv1 (Exists.intro (2 * i + 2) (Exists.intro i (Exists.intro c (Exists.intro a (And.intro e2 (And.intro rfl (And.intro hc3 (And.intro ha3 ?_)))))))))|refine Exists.intro (q1.take m) (And.intro hv1 (Exists.intro (2 * i + 1) (Exists.intro i (Exists.intro b (Exists.intro a (And.intro e1 (And.intro rfl (And.intro hb3 (And.intro ha3 ?_)))))))))|refine brK_dec (fun _=>?_) (fun _=>?_)|refine brK_ndec (fun _=>?_) (fun _=>?_)|refine brK_not (fun _=>?_) (fun _=>?_)|refine brK_in (fun _=>?_) (fun _=>?_)|refine And.intro (by first|exact rfl|exact (hls _ _ _ _)|exact ⟨_,rfl,rfl⟩|exact ⟨rfl,rfl,rfl⟩|exact of_decide_eq_true rfl|exact trivial|assumption|omega|(show (_ ≤ _ ∧ _ ≤ _); omega)|(simp; omega)|exact ⟨by first|omega|(simp; omega),_,rfl,rfl⟩) ?_|refine Quo.l (And.intro (by first|exact rfl|exact (hls _ _ _ _)|assumption|omega|(simp; omega)) ?_)|refine Quo.r (And.intro (by omega) ?_)|refine Both.mk ?_ ?_|refine Exists.intro _ (And.intro rfl ?_)|refine vrow_use (by assumption) ?_|refine opt_use (by assumption) ?_|refine fun _=>?_))|exact rfl)
        refine ⟨((q1.set i b).set (2 * i + 1) a, 2 * i + 1), [0, 1], ⟨by simpa using hl, sunk_swap hsk ha hb (by omega) (by omega), hp_swap hat (by omega) (by omega) (by omega) ha hb (ltB_iff.1 hlt) (sib_of hb (leX_refl _) fun hx => by omega), by dsimp only; omega⟩, by dsimp only; omega, ?_⟩
        repeat' (first|((conv=>whnf); (first|refine Exists.intro (q1.take m) (And.intro hv1 (Exists.intro (2 * i + 2) (Exists.intro (2 * i + 1) (Exists.intro c (Exists.intro b (And.intro e2 (And.intro e1 (And.intro hc3 (And.intro hb3 ?_)))))))))|refine Exists.intro (q1.take m) (And.intro hv1 (Exists.intro (2 * i + 2) (Exists.intro i (Exists.intro c (Exists.intro a (And.intro e2 (And.intro rfl (And.intro hc3 (And.intro ha3 ?_)))))))))|refine Exists.intro (q1.take m) (And.intro hv1 (Exists.intro (2 * i + 1) (Exists.intro i (Exists.intro b (Exists.intro a (And.intro e1 (And.intro rfl (And.intro hb3 (And.intro ha3 ?_)))))))))|refine brK_dec (fun _=>?_) (fun _=>?_)|refine brK_ndec (fun _=>?_) (fun _=>?_)|refine brK_not (fun _=>?_) (fun _=>?_)|refine brK_in (fun _=>?_) (fun _=>?_)|refine And.intro (by first|exact rfl|exact (by first|exact e1|exact e1.symm)|exact ⟨_,rfl,rfl⟩|exact ⟨rfl,rfl,rfl⟩|exact of_decide_eq_true rfl|exact trivial|assumption|omega|(show (_ ≤ _ ∧ _ ≤ _); omega)|(simp; omega)|exact ⟨by first|omega|(simp; omega),_,rfl,rfl⟩) ?_|refine Quo.l (And.intro (by first|exact rfl|exact (by first|exact e1|exact e1.symm)|assumption|omega|(simp; omega)) ?_)|refine Quo.r (And.intro (by omega) ?_)|refine Both.mk ?_ ?_|refine Exists.intro _ (And.intro rfl ?_)|refine vrow_use (by assumption) ?_|refine opt_use (by assumption) ?_|refine fun _=>?_))|exact rfl)
end Go.Proofs.YtkabnbjlglippaaGreatDoor
namespace Go.Proofs.YtkabnbjlglippaaGreatDoor
open Go Go.Vc
set_option maxHeartbeats 4000000
set_option maxRecDepth 10000
def c_heap_Push : Con := ⟨1, 2, true, fun xs hs _ K => match xs, hs with
  | [.ifp t 0 0, .iface s (.agg [.val (.int .i64 r), .val (.int .i64 a), .ints p, .val (.int .i64 d)])], [.cells [.val (.slice none 0 0)]] => t = qT ∧ s = 49 ∧ K (.tup []) [.cells [.own 1], .arr 4 (([⟨r, a, p, d⟩] : List VxD).map VxD.row)] []
  | [.ifp t 0 0, .iface s (.agg [.val (.int .i64 r), .val (.int .i64 a), .ints p, .val (.int .i64 d)])], [.cells [.own 1], .arr 4 rows] => t = qT ∧ s = 49 ∧ ∃ q : List VxD, rows = q.map VxD.row ∧ q.length < 1000000 ∧ (∀ u ∈ q, leX u ⟨r, a, p, d⟩) ∧ K (.tup []) [.cells [.own 1], .arr 4 ((q ++ [(⟨r, a, p, d⟩ : VxD)]).map VxD.row)] []
  | _, _ => False⟩
theorem k_container_heap_Push : Keeps' Tryz.prog 80 c_heap_Push := by
  refine keeps_of_vc mix TyT_ok (cok_meth (cok_meth (cok_cons k_impl_queue_Push Tryz.func147 rfl rfl (cok_cons k_impl_queue_Len Tryz.func101 rfl rfl (cok_cons k_container_heap_up Tryz.func100 rfl rfl cok_nil))) m_Push) m_Len) Tryz.func80 rfl rfl rfl ?_
  intro aargs hs Fs K h
  simp only [c_heap_Push] at h
  split at h
  case h_3 => exact h.elim
  · rename_i t s r a p d
    obtain ⟨rfl, rfl, h⟩ := h
    have hl1 : (([⟨r, a, p, d⟩] : List VxD).map VxD.row).length = 1 := rfl
    repeat' (first|((conv=>whnf); (first|refine brK_dec (fun _=>?_) (fun _=>?_)|refine brK_ndec (fun _=>?_) (fun _=>?_)|refine brK_not (fun _=>?_) (fun _=>?_)|refine brK_in (fun _=>?_) (fun _=>?_)|refine And.intro (by first|exact rfl|exact ⟨_,rfl,rfl⟩|exact ⟨rfl,rfl,rfl⟩|exact of_decide_eq_true rfl|exact trivial|assumption|omega|(show (_ ≤ _ ∧ _ ≤ _); omega)|(simp; omega)|exact ⟨by first|omega|(simp; omega),_,rfl,rfl⟩) ?_|refine Quo.l (And.intro (by first|exact rfl|assumption|omega|(simp; omega)) ?_)|refine Quo.r (And.intro (by omega) ?_)|refine Both.mk ?_ ?_|refine Exists.intro _ (And.intro rfl ?_)|refine vrow_use (by assumption) ?_|refine opt_use (by assumption) ?_|refine fun _=>?_))|exact rfl)
    refine ⟨[⟨r, a, p, d⟩], 0, ⟨r, a, p, d⟩, ⟨r, a, p, d⟩, rfl, rfl, by simp, rfl, rfl, fun h => absurd h (by omega), ?_⟩
    repeat' (first|((conv=>whnf); (first|refine brK_dec (fun _=>?_) (fun _=>?_)|refine brK_ndec (fun _=>?_) (fun _=>?_)|refine brK_not (fun _=>?_) (fun _=>?_)|refine brK_in (fun _=>?_) (fun _=>?_)|refine And.intro (by first|exact rfl|exact ⟨_,rfl,rfl⟩|exact ⟨rfl,rfl,rfl⟩|exact of_decide_eq_true rfl|exact trivial|assumption|omega|(show (_ ≤ _ ∧ _ ≤ _); omega)|(simp; omega)|exact ⟨by first|omega|(simp; omega),_,rfl,rfl⟩) ?_|refine Quo.l (And.intro (by first|exact rfl|assumption|omega|(simp; omega)) ?_)|refine Quo.r (And.intro (by omega) ?_)|refine Both.mk ?_ ?_|refine Exists.intro _ (And.intro rfl ?_)|refine vrow_use (by assumption) ?_|refine opt_use (by assumption) ?_|refine fun _=>?_))|exact rfl)
    exact h
  · rename_i t s r a p d rows
    obtain ⟨rfl, rfl, q, rfl, hq, hle, h⟩ := h
    have hl2 : ((q ++ [(⟨r, a, p, d⟩ : VxD)]).map VxD.row).length = q.length + 1 := by simp
    have hq2 : q.length < 2000000 := by omega
    repeat' (first|((conv=>whnf); (first|refine Exists.intro q (And.intro rfl (And.intro hq2 ?_))|refine brK_dec (fun _=>?_) (fun _=>?_)|refine brK_ndec (fun _=>?_) (fun _=>?_)|refine brK_not (fun _=>?_) (fun _=>?_)|refine brK_in (fun _=>?_) (fun _=>?_)|refine And.intro (by first|exact rfl|exact ⟨_,rfl,rfl⟩|exact ⟨rfl,rfl,rfl⟩|exact of_decide_eq_true rfl|exact trivial|assumption|omega|(show (_ ≤ _ ∧ _ ≤ _); omega)|(simp; omega)|exact ⟨by first|omega|(simp; omega),_,rfl,rfl⟩) ?_|refine Quo.l (And.intro (by first|exact rfl|assumption|omega|(simp; omega)) ?_)|refine Quo.r (And.intro (by omega) ?_)|refine Both.mk ?_ ?_|refine Exists.intro _ (And.intro rfl ?_)|refine vrow_use (by assumption) ?_|refine opt_use (by assumption) ?_|refine fun _=>?_))|exact rfl)
    have hv : (q ++ [(⟨r, a, p, d⟩ : VxD)])[q.length]? = some ⟨r, a, p, d⟩ := by simp
    obtain ⟨u, hu⟩ : ∃ u, (q ++ [(⟨r, a, p, d⟩ : VxD)])[(q.length - 1) / 2]? = some u := ⟨_, List.getElem?_eq_getElem (by simp; omega)⟩
    refine ⟨q ++ [⟨r, a, p, d⟩], q.length, u, ⟨r, a, p, d⟩, rfl, by omega, by simp; omega, hu, hv, fun h0 => ?_, ?_⟩
    · rw [List.getElem?_append_left (by omega)] at hu
      exact hle u (List.mem_of_getElem? hu)
    repeat' (first|((conv=>whnf); (first|refine brK_dec (fun _=>?_) (fun _=>?_)|refine brK_ndec (fun _=>?_) (fun _=>?_)|refine brK_not (fun _=>?_) (fun _=>?_)|refine brK_in (fun _=>?_) (fun _=>?_)|refine And.intro (by first|exact rfl|exact ⟨_,rfl,rfl⟩|exact ⟨rfl,rfl,rfl⟩|exact of_decide_eq_true rfl|exact trivial|assumption|omega|(show (_ ≤ _ ∧ _ ≤ _); omega)|(simp; omega)|exact ⟨by first|omega|(simp; omega),_,rfl,rfl⟩) ?_|refine Quo.l (And.intro (by first|exact rfl|assumption|omega|(simp; omega)) ?_)|refine Quo.r (And.intro (by omega) ?_)|refine Both.mk ?_ ?_|refine Exists.intro _ (And.intro rfl ?_)|refine vrow_use (by assumption) ?_|refine opt_use (by assumption) ?_|refine fun _=>?_))|exact rfl)
    exact h
theorem hp_take {l : List VxD} {m : Nat} (h : Hp (l.take m) m) : Hp l m := fun j u v hj0 hjm hu hv =>
  h j u v hj0 hjm (by rw [List.getElem?_take, if_pos (by omega)]; exact hu) (by rw [List.getElem?_take, if_pos hjm]; exact hv)
theorem sunk_take {q l : List VxD} {n m : Nat} (h : Sunk q l n) (hn : n ≤ m) : Sunk (q.take m) (l.take m) n := by
  have hd : l.drop m = q.drop m := by
    apply List.ext_getElem?
    intro i
    rw [List.getElem?_drop, List.getElem?_drop]
    exact h.rest _ (by omega)
  refine ⟨?_, fun x hx => ?_⟩
  · have hp := h.perm
    rw [← List.take_append_drop m l, ← List.take_append_drop m q, hd] at hp
    exact (List.perm_append_right_iff _).1 hp
  · rw [List.getElem?_take, List.getElem?_take]
    split
    · exact h.rest x hx
    · rfl
def c_heap_Pop : Con := ⟨0, 2, true, fun xs hs _ K => match xs, hs with
  | [.ifp t 0 0], [.cells [.own 1], .arr 4 rows] => t = qT ∧ ∃ (q : List VxD) (n : Nat), rows = q.map VxD.row ∧ q.length = n + 1 ∧ n < 1000000 ∧ Hp q q.length ∧ ∀ (v : VxD) (q2 : List VxD), q2.length = q.length → Popd q v (q2.take n) → K (.iface 49 (.agg v.row)) [.cells [.sub 1 0 n], .arr 4 (q2.map VxD.row)] []
  | [.ifp t 0 0], [.cells [.sub 1 0 m], .arr 4 rows] => t = qT ∧ ∃ (q : List VxD) (n : Nat), rows = q.map VxD.row ∧ m = n + 1 ∧ m ≤ q.length ∧ q.length < 1000000 ∧ Hp (q.take m) m ∧ ∀ (v : VxD) (q2 : List VxD), q2.length = q.length → Popd (q.take m) v (q2.take n) → K (.iface 49 (.agg v.row)) [.cells [.sub 1 0 n], .arr 4 (q2.map VxD.row)] []
  | _, _ => False⟩
theorem k_container_heap_Pop : Keeps' Tryz.prog 102 c_heap_Pop := by
  refine keeps_of_vc mix TyT_ok (cok_meth (cok_meth (cok_meth (cok_cons k_impl_queue_Len Tryz.func101 rfl rfl (cok_cons k_impl_queue_Swap Tryz.func148 rfl rfl (cok_cons k_container_heap_down Tryz.func117 rfl rfl (cok_cons k_impl_queue_Pop Tryz.func146 rfl rfl cok_nil)))) m_Len) m_Swap) m_Pop) Tryz.func102 rfl rfl rfl ?_
  intro aargs hs Fs K h
  simp only [c_heap_Pop] at h
  split at h
  case h_3 => exact h.elim
  · rename_i t rows
    obtain ⟨rfl, q, n, rfl, hl, hn, hhp, h⟩ := h
    have hlen : (q.map VxD.row).length = n + 1 := by simpa using hl
    have hls : ∀ (x y : Nat) (u v : VxD), (((q.set x u).set y v).map VxD.row).length = (q.map VxD.row).length := fun x y u v => by simp
    obtain ⟨a, ha⟩ : ∃ a, q[0]? = some a := ⟨_, List.getElem?_eq_getElem (by omega)⟩
    obtain ⟨b, hb⟩ : ∃ b, q[n]? = some b := ⟨_, List.getElem?_eq_getElem (by omega)⟩
    have e1 : (((q.map VxD.row).length : Nat) : Int) - 1 = (n : Int) := by omega
    have hq2 : q.length < 2000000 := by omega
    have hfl : ((q.set 0 b).set n a).length = q.length := by simp
    repeat' (first|((conv=>whnf); (first|refine Exists.intro q (And.intro rfl (Exists.intro 0 (Exists.intro n (Exists.intro a (Exists.intro b (And.intro rfl (And.intro e1 (And.intro ha (And.intro hb (And.intro hq2 ?_))))))))))|refine Exists.intro ((q.set 0 b).set n a) (Exists.intro n (And.intro rfl (And.intro e1 (And.intro (by omega) (And.intro (by omega) (And.intro (hp_first hhp hl ha hb) ?_))))))|refine brK_dec (fun _=>?_) (fun _=>?_)|refine brK_ndec (fun _=>?_) (fun _=>?_)|refine brK_not (fun _=>?_) (fun _=>?_)|refine brK_in (fun _=>?_) (fun _=>?_)|refine And.intro (by first|exact rfl|exact (hls _ _ _ _)|exact ⟨_,rfl,rfl⟩|exact ⟨rfl,rfl,rfl⟩|exact of_decide_eq_true rfl|exact trivial|assumption|omega|(show (_ ≤ _ ∧ _ ≤ _); omega)|(simp; omega)|exact ⟨by first|omega|(simp; omega),_,rfl,rfl⟩) ?_|refine Quo.l (And.intro (by first|exact rfl|exact (hls _ _ _ _)|assumption|omega|(simp; omega)) ?_)|refine Quo.r (And.intro (by omega) ?_)|refine Both.mk ?_ ?_|refine Exists.intro _ (And.intro rfl ?_)|refine vrow_use (by assumption) ?_|refine opt_use (by assumption) ?_|refine fun _=>?_))|exact rfl)
    rename_i q2 bb hl2 hsk hh
    have hp := popd_of hhp hl ha hb hsk hh
    repeat' (first|((conv=>whnf); (first|refine Exists.intro q2 (Exists.intro n (Exists.intro a (And.intro rfl (And.intro (by omega) (And.intro (by omega) (And.intro hp.1 ?_))))))|refine brK_dec (fun _=>?_) (fun _=>?_)|refine brK_ndec (fun _=>?_) (fun _=>?_)|refine brK_not (fun _=>?_) (fun _=>?_)|refine brK_in (fun _=>?_) (fun _=>?_)|refine And.intro (by first|exact rfl|exact ⟨_,rfl,rfl⟩|exact ⟨rfl,rfl,rfl⟩|exact of_decide_eq_true rfl|exact trivial|assumption|omega|(show (_ ≤ _ ∧ _ ≤ _); omega)|(simp; omega)|exact ⟨by first|omega|(simp; omega),_,rfl,rfl⟩) ?_|refine Quo.l (And.intro (by first|exact rfl|assumption|omega|(simp; omega)) ?_)|refine Quo.r (And.intro (by omega) ?_)|refine Both.mk ?_ ?_|refine Exists.intro _ (And.intro rfl ?_)|refine vrow_use (by assumption) ?_|refine opt_use (by assumption) ?_|refine fun _=>?_))|exact rfl)
    exact h a q2 (by omega) hp.2
  · rename_i t m rows
    obtain ⟨rfl, q, n, rfl, rfl, hmq, hq, hhp, h⟩ := h
    have hlen : (q.map VxD.row).length = q.length := by simp
    have hls : ∀ (x y : Nat) (u v : VxD), (((q.set x u).set y v).map VxD.row).length = (q.map VxD.row).length := fun x y u v => by simp
    obtain ⟨a, ha⟩ : ∃ a, q[0]? = some a := ⟨_, List.getElem?_eq_getElem (by omega)⟩
    obtain ⟨b, hb⟩ : ∃ b, q[n]? = some b := ⟨_, List.getElem?_eq_getElem (by omega)⟩
    have hq2 : q.length < 2000000 := by omega
    have hlt : (q.take (n + 1)).length = n + 1 := by rw [List.length_take]; omega
    have hat : (q.take (n + 1))[0]? = some a := by rw [List.getElem?_take, if_pos (by omega)]; exact ha
    have hbt : (q.take (n + 1))[n]? = some b := by rw [List.getElem?_take, if_pos (by omega)]; exact hb
    have hhp2 : Hp (q.take (n + 1)) (q.take (n + 1)).length := by rw [hlt]; exact hhp
    have hfl : ((q.set 0 b).set n a).length = q.length := by simp
    have hfirst : HpAt ((q.set 0 b).set n a) n 0 := by
      have h1 := hp_first hhp2 hlt hat hbt
      rw [← List.take_set, ← List.take_set] at h1
      refine ⟨fun j u v hj0 hjn hp hu hv => h1.up j u v hj0 hjn hp (by rw [List.getElem?_take, if_pos (by omega)]; exact hu) (by rw [List.getElem?_take, if_pos (by omega)]; exact hv), fun j u v _ _ _ h0 _ _ => absurd h0 (by omega)⟩
    have hlv : (List.take (n + 1 - 0) (List.drop 0 (q.map VxD.row))).length = n + 1 := by simp; omega
    have hll : (List.take (n + 1 - 0) (List.drop 0 (q.map VxD.row))).length < 2000000 := by omega
    have e1 : (((List.take (n + 1 - 0) (List.drop 0 (q.map VxD.row))).length : Nat) : Int) - 1 = (n : Int) := by omega
    repeat' (first|((conv=>whnf); (first|refine Exists.intro q (And.intro rfl (Exists.intro 0 (Exists.intro n (Exists.intro a (Exists.intro b (And.intro rfl (And.intro e1 (And.intro (by omega) (And.intro (by omega) (And.intro ha (And.intro hb (And.intro hq2 ?_))))))))))))|refine Exists.intro ((q.set 0 b).set n a) (Exists.intro n (And.intro rfl (And.intro e1 (And.intro (by omega) (And.intro (by omega) (And.intro (by omega) (And.intro hfirst ?_)))))))|refine brK_dec (fun _=>?_) (fun _=>?_)|refine brK_ndec (fun _=>?_) (fun _=>?_)|refine brK_not (fun _=>?_) (fun _=>?_)|refine brK_in (fun _=>?_) (fun _=>?_)|refine And.intro (by first|exact rfl|exact (by first|exact hls _ _ _ _|exact hll)|exact ⟨_,rfl,rfl⟩|exact ⟨rfl,rfl,rfl⟩|exact of_decide_eq_true rfl|exact trivial|assumption|omega|(show (_ ≤ _ ∧ _ ≤ _); omega)|(simp; omega)|exact ⟨by first|omega|(simp; omega),_,rfl,rfl⟩) ?_|refine Quo.l (And.intro (by first|exact rfl|exact (by first|exact hls _ _ _ _|exact hll)|assumption|omega|(simp; omega)) ?_)|refine Quo.r (And.intro (by omega) ?_)|refine Both.mk ?_ ?_|refine Exists.intro _ (And.intro rfl ?_)|refine vrow_use (by assumption) ?_|refine opt_use (by assumption) ?_|refine fun _=>?_))|exact rfl)
    rename_i q2 bb hl2 hsk hh
    have hsk2 := sunk_take hsk (Nat.le_succ n)
    rw [List.take_set, List.take_set] at hsk2
    have hh2 : Hp (q2.take (n + 1)) n := fun j u v hj0 hjn hu hv => by
      rw [List.getElem?_take, if_pos (by omega)] at hu hv
      exact hh j u v hj0 hjn hu hv
    have hp := popd_of hhp2 hlt hat hbt hsk2 hh2
    have hp1 : q2[n]? = some a := by
      have := hp.1
      rw [List.getElem?_take, if_pos (by omega)] at this
      exact this
    have hp2 := hp.2
    rw [List.take_take, Nat.min_eq_left (by omega)] at hp2
    repeat' (first|((conv=>whnf); (first|refine Exists.intro q2 (Exists.intro n (Exists.intro a (And.intro rfl (And.intro rfl (And.intro (by omega) (And.intro (by omega) (And.intro hp1 ?_)))))))|refine brK_dec (fun _=>?_) (fun _=>?_)|refine brK_ndec (fun _=>?_) (fun _=>?_)|refine brK_not (fun _=>?_) (fun _=>?_)|refine brK_in (fun _=>?_) (fun _=>?_)|refine And.intro (by first|exact rfl|exact ⟨_,rfl,rfl⟩|exact ⟨rfl,rfl,rfl⟩|exact of_decide_eq_true rfl|exact trivial|assumption|omega|(show (_ ≤ _ ∧ _ ≤ _); omega)|(simp; omega)|exact ⟨by first|omega|(simp; omega),_,rfl,rfl⟩) ?_|refine Quo.l (And.intro (by first|exact rfl|assumption|omega|(simp; omega)) ?_)|refine Quo.r (And.intro (by omega) ?_)|refine Both.mk ?_ ?_|refine Exists.intro _ (And.intro rfl ?_)|refine vrow_use (by assumption) ?_|refine opt_use (by assumption) ?_|refine fun _=>?_))|exact rfl)
    exact h a q2 (by omega) hp2
end Go.Proofs.YtkabnbjlglippaaGreatDoor
namespace Go.Proofs.YtkabnbjlglippaaGreatDoor
open Go Go.Vc
set_option maxHeartbeats 4000000
set_option maxRecDepth 10000
/-- A vertex with the wave that orders it. -/
def oRow (w : Int) (v : VxD) : List AV := [I v.r, I v.a, .ints v.p, I v.d, I w]
def c_queue_drain : Con := ⟨1, 2, true, fun xs hs _ K => match xs, hs with
  | [.ptr 0 0, .val (.int .i64 w)], [.cells [.own 1], .arr 4 rows] => ∃ q : List VxD, rows = q.map VxD.row ∧ q.length < 1000000 ∧ Hp q q.length ∧ (q = [] → K (.own 2) [.cells [.own 1], .arr 4 [], .arr 5 []] []) ∧ (q ≠ [] → ∀ o q2 : List VxD, Drn q o [] → K (.own 2) [.cells [.sub 1 0 0], .arr 4 (q2.map VxD.row), .arr 5 (o.map (oRow w))] [])
  | _, _ => False⟩
theorem drn_len {l0 o l : List VxD} (h : Drn l0 o l) : o.length + l.length = l0.length := by
  have := h.perm.length_eq
  simpa using this
theorem orow_snoc {w : Int} {o : List VxD} {v : VxD} : (o ++ [v]).map (oRow w) = o.map (oRow w) ++ [oRow w v] := by simp
theorem k_impl_queue_drain : Keeps' Tryz.prog 81 c_queue_drain := by
  refine keeps_of_vc mix TyT_ok (cok_cons k_impl_queue_Len Tryz.func101 rfl rfl (cok_cons k_container_heap_Pop Tryz.func102 rfl rfl cok_nil)) Tryz.func81 rfl rfl rfl ?_
  intro aargs hs Fs K h
  simp only [c_queue_drain] at h
  split at h
  case h_2 => exact h.elim
  rename_i w rows
  obtain ⟨q, rfl, hq, hhp, h1, h2⟩ := h
  have hlen : (q.map VxD.row).length = q.length := by simp
  repeat' (first|((conv=>whnf); (first|refine brK_dec (fun _=>?_) (fun _=>?_)|refine brK_ndec (fun _=>?_) (fun _=>?_)|refine brK_not (fun _=>?_) (fun _=>?_)|refine brK_in (fun _=>?_) (fun _=>?_)|refine And.intro (by first|exact rfl|exact ⟨_,rfl,rfl⟩|exact ⟨rfl,rfl,rfl⟩|exact of_decide_eq_true rfl|exact trivial|assumption|omega|(show (_ ≤ _ ∧ _ ≤ _); omega)|(simp; omega)|exact ⟨by first|omega|(simp; omega),_,rfl,rfl⟩) ?_|refine Quo.l (And.intro (by first|exact rfl|assumption|omega|(simp; omega)) ?_)|refine Quo.r (And.intro (by omega) ?_)|refine Both.mk ?_ ?_|refine Exists.intro _ (And.intro rfl ?_)|refine vrow_use (by assumption) ?_|refine opt_use (by assumption) ?_|refine fun _=>?_))|exact rfl)
  refine loop_in (ι := List VxD × Option (List VxD × Nat)) (fun g => mkS 29 [(0, .ptr 0 0), (1, I w), (5, .own 2)] (match g.2 with
      | none => [.cells [.own 1], .arr 4 (q.map VxD.row), .arr 5 []]
      | some p => [.cells [.sub 1 0 p.2], .arr 4 (p.1.map VxD.row), .arr 5 (g.1.map (oRow w))]) Fs)
    (fun g => match g.2 with
      | none => True
      | some p => p.2 ≤ p.1.length ∧ p.1.length = q.length ∧ Drn q g.1 (p.1.take p.2) ∧ q ≠ [])
    (fun g => match g.2 with
      | none => q.length + 1
      | some p => p.2) ([], none) [0, 1, 2] trivial ?_ ?_
  · repeat' (first|((conv=>whnf); (first|refine brK_dec (fun _=>?_) (fun _=>?_)|refine brK_ndec (fun _=>?_) (fun _=>?_)|refine brK_not (fun _=>?_) (fun _=>?_)|refine brK_in (fun _=>?_) (fun _=>?_)|refine And.intro (by first|exact rfl|exact ⟨_,rfl,rfl⟩|exact ⟨rfl,rfl,rfl⟩|exact of_decide_eq_true rfl|exact trivial|assumption|omega|(show (_ ≤ _ ∧ _ ≤ _); omega)|(simp; omega)|exact ⟨by first|omega|(simp; omega),_,rfl,rfl⟩) ?_|refine Quo.l (And.intro (by first|exact rfl|assumption|omega|(simp; omega)) ?_)|refine Quo.r (And.intro (by omega) ?_)|refine Both.mk ?_ ?_|refine Exists.intro _ (And.intro rfl ?_)|refine vrow_use (by assumption) ?_|refine opt_use (by assumption) ?_|refine fun _=>?_))|exact rfl)
  rintro ⟨o, _ | ⟨q2, n⟩⟩ hJ
  · dsimp only
    cases q with
    | nil =>
      repeat' (first|((conv=>whnf); (first|refine brK_dec (fun _=>?_) (fun _=>?_)|refine brK_ndec (fun _=>?_) (fun _=>?_)|refine brK_not (fun _=>?_) (fun _=>?_)|refine brK_in (fun _=>?_) (fun _=>?_)|refine And.intro (by first|exact rfl|exact ⟨_,rfl,rfl⟩|exact ⟨rfl,rfl,rfl⟩|exact of_decide_eq_true rfl|exact trivial|assumption|omega|(show (_ ≤ _ ∧ _ ≤ _); omega)|(simp; omega)|exact ⟨by first|omega|(simp; omega),_,rfl,rfl⟩) ?_|refine Quo.l (And.intro (by first|exact rfl|assumption|omega|(simp; omega)) ?_)|refine Quo.r (And.intro (by omega) ?_)|refine Both.mk ?_ ?_|refine Exists.intro _ (And.intro rfl ?_)|refine vrow_use (by assumption) ?_|refine opt_use (by assumption) ?_|refine fun _=>?_))|exact rfl)
      exact h1 rfl
    | cons x q =>
      repeat' (first|((conv=>whnf); (first|refine Exists.intro (x :: q) (Exists.intro q.length (And.intro rfl (And.intro rfl (And.intro (by simp at hq; omega) (And.intro hhp ?_)))))|refine brK_dec (fun _=>?_) (fun _=>?_)|refine brK_ndec (fun _=>?_) (fun _=>?_)|refine brK_not (fun _=>?_) (fun _=>?_)|refine brK_in (fun _=>?_) (fun _=>?_)|refine And.intro (by first|exact rfl|exact ⟨_,rfl,rfl⟩|exact ⟨rfl,rfl,rfl⟩|exact of_decide_eq_true rfl|exact trivial|assumption|omega|(show (_ ≤ _ ∧ _ ≤ _); omega)|(simp; omega)|exact ⟨by first|omega|(simp; omega),_,rfl,rfl⟩) ?_|refine Quo.l (And.intro (by first|exact rfl|assumption|omega|(simp; omega)) ?_)|refine Quo.r (And.intro (by omega) ?_)|refine Both.mk ?_ ?_|refine Exists.intro _ (And.intro rfl ?_)|refine vrow_use (by assumption) ?_|refine opt_use (by assumption) ?_|refine fun _=>?_))|exact rfl)
      · rename_i _ v q2 hl2 hp
        refine ⟨([v], some (q2, q.length)), [0, 1, 2], ⟨by dsimp only; simp at hl2; omega, hl2, drn_next (drn_start hhp) hp, by simp⟩, by dsimp only; simp; omega, ?_⟩
        repeat' (first|((conv=>whnf); (first|refine Exists.intro (x :: q) (Exists.intro q.length (And.intro rfl (And.intro rfl (And.intro (by simp at hq; omega) (And.intro hhp ?_)))))|refine brK_dec (fun _=>?_) (fun _=>?_)|refine brK_ndec (fun _=>?_) (fun _=>?_)|refine brK_not (fun _=>?_) (fun _=>?_)|refine brK_in (fun _=>?_) (fun _=>?_)|refine And.intro (by first|exact rfl|exact ⟨_,rfl,rfl⟩|exact ⟨rfl,rfl,rfl⟩|exact of_decide_eq_true rfl|exact trivial|assumption|omega|(show (_ ≤ _ ∧ _ ≤ _); omega)|(simp; omega)|exact ⟨by first|omega|(simp; omega),_,rfl,rfl⟩) ?_|refine Quo.l (And.intro (by first|exact rfl|assumption|omega|(simp; omega)) ?_)|refine Quo.r (And.intro (by omega) ?_)|refine Both.mk ?_ ?_|refine Exists.intro _ (And.intro rfl ?_)|refine vrow_use (by assumption) ?_|refine opt_use (by assumption) ?_|refine fun _=>?_))|exact rfl)
      · rename_i e
        exfalso
        rw [hlen] at e
        simp at e
  · obtain ⟨j1, j2, j3, j4⟩ := hJ
    dsimp only at j1 j2 j3 j4 ⊢
    have hlv : (List.take (n - 0) (List.drop 0 (q2.map VxD.row))).length = n := by simp; omega
    rcases Nat.eq_zero_or_pos n with h0 | h0
    · subst h0
      repeat' (first|((conv=>whnf); (first|refine brK_dec (fun _=>?_) (fun _=>?_)|refine brK_ndec (fun _=>?_) (fun _=>?_)|refine brK_not (fun _=>?_) (fun _=>?_)|refine brK_in (fun _=>?_) (fun _=>?_)|refine And.intro (by first|exact rfl|exact ⟨_,rfl,rfl⟩|exact ⟨rfl,rfl,rfl⟩|exact of_decide_eq_true rfl|exact trivial|assumption|omega|(show (_ ≤ _ ∧ _ ≤ _); omega)|(simp; omega)|exact ⟨by first|omega|(simp; omega),_,rfl,rfl⟩) ?_|refine Quo.l (And.intro (by first|exact rfl|assumption|omega|(simp; omega)) ?_)|refine Quo.r (And.intro (by omega) ?_)|refine Both.mk ?_ ?_|refine Exists.intro _ (And.intro rfl ?_)|refine vrow_use (by assumption) ?_|refine opt_use (by assumption) ?_|refine fun _=>?_))|exact rfl)
      exact h2 j4 o q2 j3
    · obtain ⟨k, rfl⟩ : ∃ k, n = k + 1 := ⟨n - 1, by omega⟩
      have hol := drn_len j3
      have htl : (q2.take (k + 1)).length = k + 1 := by rw [List.length_take]; omega
      have hhp2 := j3.heap
      rw [htl] at hhp2
      have hom : (o.map (oRow w)).length = o.length := by simp
      repeat' (first|((conv=>whnf); (first|refine Exists.intro q2 (Exists.intro k (And.intro rfl (And.intro rfl (And.intro j1 (And.intro (by omega) (And.intro hhp2 ?_))))))|refine brK_dec (fun _=>?_) (fun _=>?_)|refine brK_ndec (fun _=>?_) (fun _=>?_)|refine brK_not (fun _=>?_) (fun _=>?_)|refine brK_in (fun _=>?_) (fun _=>?_)|refine And.intro (by first|exact rfl|exact (by first|(show ((o.map (oRow w)).length + 1) * 56 ≤ 140737488355328; omega)|(show (o.map (oRow w)).length + 1 ≤ 9223372036854775807; omega))|exact ⟨_,rfl,rfl⟩|exact ⟨rfl,rfl,rfl⟩|exact of_decide_eq_true rfl|exact trivial|assumption|omega|(show (_ ≤ _ ∧ _ ≤ _); omega)|(simp; omega)|exact ⟨by first|omega|(simp; omega),_,rfl,rfl⟩) ?_|refine Quo.l (And.intro (by first|exact rfl|exact (by first|(show ((o.map (oRow w)).length + 1) * 56 ≤ 140737488355328; omega)|(show (o.map (oRow w)).length + 1 ≤ 9223372036854775807; omega))|assumption|omega|(simp; omega)) ?_)|refine Quo.r (And.intro (by omega) ?_)|refine Both.mk ?_ ?_|refine Exists.intro _ (And.intro rfl ?_)|refine vrow_use (by assumption) ?_|refine opt_use (by assumption) ?_|refine fun _=>?_))|exact rfl)
      · rename_i _ v q3 hl3 hp
        refine ⟨(o ++ [v], some (q3, k)), [0, 1, 2], ⟨by dsimp only; omega, by dsimp only; omega, drn_next j3 hp, j4⟩, by dsimp only; omega, ?_⟩
        have ea : (o ++ [v]).map (oRow w) = (o.map (oRow w)).take (o.map (oRow w)).length ++ [oRow w v] := by rw [orow_snoc, List.take_length]
        repeat' (first|((conv=>whnf); (first|refine brK_dec (fun _=>?_) (fun _=>?_)|refine brK_ndec (fun _=>?_) (fun _=>?_)|refine brK_not (fun _=>?_) (fun _=>?_)|refine brK_in (fun _=>?_) (fun _=>?_)|refine And.intro (by first|exact rfl|exact ea|exact ⟨_,rfl,rfl⟩|exact ⟨rfl,rfl,rfl⟩|exact of_decide_eq_true rfl|exact trivial|assumption|omega|(show (_ ≤ _ ∧ _ ≤ _); omega)|(simp; omega)|exact ⟨by first|omega|(simp; omega),_,rfl,rfl⟩) ?_|refine Quo.l (And.intro (by first|exact rfl|exact ea|assumption|omega|(simp; omega)) ?_)|refine Quo.r (And.intro (by omega) ?_)|refine Both.mk ?_ ?_|refine Exists.intro _ (And.intro rfl ?_)|refine vrow_use (by assumption) ?_|refine opt_use (by assumption) ?_|refine fun _=>?_))|exact rfl)
      · omega
end Go.Proofs.YtkabnbjlglippaaGreatDoor
