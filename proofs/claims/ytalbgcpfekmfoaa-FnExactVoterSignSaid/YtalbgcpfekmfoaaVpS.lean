/-
The sort of votes, by the shelf's law.
No conditions.
-/
import Derived.Test.YtalbgcpfekmfoaaVpO
import Derived.Test.YtalbgcpfekmfoaaVpR
import Derived.Test.YtalbgcpfekmfoaaShelf
import Derived.Deep.RegionHeld3
namespace Go.Proofs.Ytalbgcpfekmfoaa
open Go Go.Vc Go.RowKit Go.Shelf Go.Lib Go.Sort
set_option maxHeartbeats 1000000
set_option maxRecDepth 100000
theorem cmp_any (x y : Int) (w : World) : Calls Try.prog 91 #[.int .i64 x, .int .i64 y] w fun e w' => e = .returned (.int .i64 (cmpI x y)) ∧ w' = w := by
  have hn := fun x w => Try.cmp_isNaN_int2 x w
  unfold cmpI
  go_enter Try.func91, Try.ntmps91
  go_wp2_with (first | (go_at_call 100; refine (hn _ _).mono ?_; rintro e w' ⟨rfl, rfl⟩) | go_in)
  all_goals go_ret
  all_goals exact ⟨rfl, rfl⟩
theorem or_any (x y : Int) (b : Nat) (w : World) (h0 : w.cell? ⟨b, 0, none⟩ = some (.int .i64 x)) (h1 : w.cell? ⟨b, 1, none⟩ = some (.int .i64 y)) :
    Calls Try.prog 90 #[.slice (some ⟨b, 0, none⟩) 2 2] w fun e w' => e = .returned (.int .i64 (orI [x, y])) ∧ w' = w := by
  by_cases hx : x = 0
  · by_cases hy : y = 0
    · subst hx hy
      go_enter Try.func90, Try.ntmps90
      go_wp2
      refine wp_loop_rounds 3 ?_
      rw [rounds_succ]
      go_wp2
      rw [rounds_succ]
      go_wp2
      rw [rounds_succ]
      go_wp2
      go_ret
      exact ⟨rfl, rfl⟩
    · subst hx
      have e : orI [0, y] = y := by simp [orI, hy]
      rw [e]
      go_enter Try.func90, Try.ntmps90
      go_wp2
      refine wp_loop_rounds 3 ?_
      rw [rounds_succ]
      go_wp2
      rw [rounds_succ]
      go_wp2
      go_ret
      exact ⟨rfl, rfl⟩
  · have e : orI [x, y] = x := by simp [orI, hx]
    rw [e]
    go_enter Try.func90, Try.ntmps90
    go_wp2
    refine wp_loop_rounds 3 ?_
    rw [rounds_succ]
    go_wp2
    go_ret
    exact ⟨rfl, rfl⟩
theorem alloc_three (w : World) (o1 o2 o3 : Obj) : (((w.alloc o1).alloc o2).alloc o3).drew.heap[w.heap.size + 1 + 1]? = some o3 := by
  have h := heap_alloc_new ((w.alloc o1).alloc o2) o3
  have e : ((w.alloc o1).alloc o2).heap.size = w.heap.size + 1 + 1 := by simp
  rw [e] at h
  exact h
theorem cmpv_any (r a d r' a' d' : Int) (w : World) : Calls Try.prog 57 #[.agg #[.int .i64 r, .int .i64 a, .int .i64 d], .agg #[.int .i64 r', .int .i64 a', .int .i64 d']] w fun e w' => e = .returned (.int .i64 (cmpT ⟨r, a, d⟩ ⟨r', a', d'⟩)) ∧ ∃ q os, w' = grow (w.drewN q) os := by
  rw [← cmpT_or]
  go_enter Try.func57, Try.ntmps57
  go_wp2
  have hc1 : ∀ x y w, Calls Try.prog 91 #[.int .i64 x, .int .i64 y] w fun e w' => e = .returned (.int .i64 (cmpI x y)) ∧ w' = w := cmp_any
  have t1 : ((w.alloc (.cells #[.int .i64 r, .int .i64 a, .int .i64 d] 34)).alloc (.cells #[.int .i64 r', .int .i64 a', .int .i64 d'] 34)).heap[w.heap.size]? = some (.cells #[.int .i64 r, .int .i64 a, .int .i64 d] 34 (0, 0)) := keep1 (Go.heap_alloc_new _ _)
  have t2 := alloc_two w (.cells #[.int .i64 r, .int .i64 a, .int .i64 d] 34) (.cells #[.int .i64 r', .int .i64 a', .int .i64 d'] 34)
  have ts : ((w.alloc (.cells #[.int .i64 r, .int .i64 a, .int .i64 d] 34)).alloc (.cells #[.int .i64 r', .int .i64 a', .int .i64 d'] 34)).heap.size = w.heap.size + 1 + 1 := by simp
  have tg : (w.alloc (.cells #[.int .i64 r, .int .i64 a, .int .i64 d] 34)).alloc (.cells #[.int .i64 r', .int .i64 a', .int .i64 d'] 34) = grow w #[.cells #[.int .i64 r, .int .i64 a, .int .i64 d] 34, .cells #[.int .i64 r', .int .i64 a', .int .i64 d'] 34] := by rw [alloc_eq_grow, alloc_eq_grow, grow_grow]; rfl
  generalize (w.alloc (.cells #[.int .i64 r, .int .i64 a, .int .i64 d] 34)).alloc (.cells #[.int .i64 r', .int .i64 a', .int .i64 d'] 34) = W at *
  have hor : Box (∀ p q : Int, Calls Try.prog 90 #[.slice (some ⟨W.heap.size, 0, none⟩) 2 2] (W.alloc (.cells #[.int .i64 p, .int .i64 q] 3)).drew fun e w' => e = .returned (.int .i64 (orI [p, q])) ∧ w' = (W.alloc (.cells #[.int .i64 p, .int .i64 q] 3)).drew) := ⟨fun p q => or_any p q W.heap.size _ (cell_of (fr := (0, 0)) (show (W.alloc (.cells #[.int .i64 p, .int .i64 q] 3)).drew.heap[W.heap.size]? = _ from Go.heap_alloc_new _ _) 0) (cell_of (fr := (0, 0)) (show (W.alloc (.cells #[.int .i64 p, .int .i64 q] 3)).drew.heap[W.heap.size]? = _ from Go.heap_alloc_new _ _) 1)⟩
  have u0 := cell_of t1 0
  have u1 := cell_of t1 1
  have u2 := cell_of t2 0
  have u3 := cell_of t2 1
  simp only [List.getElem?_toArray, List.getElem?_cons_zero, List.getElem?_cons_succ] at u0 u1 u2 u3
  have btg : Box (W = grow w #[.cells #[.int .i64 r, .int .i64 a, .int .i64 d] 34, .cells #[.int .i64 r', .int .i64 a', .int .i64 d'] 34]) := ⟨tg⟩
  have bts : Box (W.heap.size = w.heap.size + 1 + 1) := ⟨ts⟩
  clear t1 t2 tg ts
  generalize w.heap.size = h at *
  go_region_held3 (fun w' => w'.cell? ⟨h, 0, none⟩ = some (.int .i64 r) ∧ w'.cell? ⟨h, 1, none⟩ = some (.int .i64 a) ∧ w'.cell? ⟨h + 1, 0, none⟩ = some (.int .i64 r') ∧ w'.cell? ⟨h + 1, 1, none⟩ = some (.int .i64 a')) (go_keep) (first | (go_at_call 91; refine (hc1 _ _ _).mono ?_; rintro e w' ⟨rfl, rfl⟩) | (go_at_call 90; refine (hor.out _ _).mono ?_; rintro e w' ⟨rfl, rfl⟩))
  go_wp2
  go_ret
  refine ⟨rfl, 1, #[.cells #[.int .i64 r, .int .i64 a, .int .i64 d] 34, .cells #[.int .i64 r', .int .i64 a', .int .i64 d'] 34] ++ #[.cells #[.int .i64 (cmpI r r'), .int .i64 (cmpI a a')] 3], ?_⟩
  rw [btg.out, alloc_eq_grow, grow_grow]
  rfl
instance : Inhabited VtD := ⟨⟨0, 0, 0⟩⟩
theorem flat_get : ∀ (l : List VtD) (t : Nat), t < l.length * 3 → (l.flatMap tcV)[t]! = (tcV l[t / 3]!)[t % 3]!
  | [], t, h => absurd h (by simp)
  | x :: l, t, h => by
    rcases Nat.lt_or_ge t 3 with h3 | h3
    · have e1 : t / 3 = 0 := by omega
      have e2 : t % 3 = t := by omega
      rw [e1, e2, List.flatMap_cons]
      have : t < (tcV x).length := h3
      show _ = (tcV x)[t]!
      rw [List.getElem!_eq_getElem?_getD, List.getElem?_append_left this, List.getElem!_eq_getElem?_getD]
    · have ih := flat_get l (t - 3) (by simp at h; omega)
      have e1 : t / 3 = (t - 3) / 3 + 1 := by omega
      have e2 : t % 3 = (t - 3) % 3 := by omega
      rw [e1, e2, List.flatMap_cons]
      have hl : (tcV x).length = 3 := rfl
      rw [List.getElem!_eq_getElem?_getD, List.getElem?_append_right (by omega), hl]
      rw [List.getElem!_eq_getElem?_getD] at ih
      rw [ih]
      simp
theorem flat_list (l : List VtD) : (flatK tcV 3 l.toArray).toList = l.flatMap tcV := by
  have hs : (flatK tcV 3 l.toArray).size = l.length * 3 := by simp
  apply List.ext_getElem?
  intro t
  by_cases ht : t < l.length * 3
  · have h1 := get_flatK tcV 3 l.toArray t (by simpa using ht)
    have h2 := flat_get l t ht
    have h3 : (flatK tcV 3 l.toArray)[t]? = some (flatK tcV 3 l.toArray)[t]! := by
      rw [getElem!_pos _ t (by omega)]
      exact Array.getElem?_eq_getElem (by omega)
    have h4 : (l.flatMap tcV)[t]? = some (l.flatMap tcV)[t]! := by
      rw [getElem!_pos _ t (by rw [tc_len]; exact ht)]
      exact List.getElem?_eq_getElem (by rw [tc_len]; exact ht)
    rw [Array.getElem?_toList, h3, h4, h1, h2]
    simp
  · rw [List.getElem?_eq_none (by rw [Array.length_toList]; omega), List.getElem?_eq_none (by rw [tc_len]; omega)]
theorem holds_rowV {w : World} {g : Nat} {cur : Array Value} {T : TypeId} {ss : List VtD} (hb : w.heap[g]? = some (.cells cur T (0, 0))) (ht : cur.toList.take (ss.length * 3) = ss.flatMap tcV) : HoldsK tcV 3 w g 0 ss.toArray := by
  intro j hj
  have hj' : j < ss.length * 3 := by simpa using hj
  rw [Nat.zero_add]
  refine ⟨?_, frz_of hb j⟩
  rw [cell_of hb j]
  have h1 : (cur.toList.take (ss.length * 3))[j]? = (flatK tcV 3 ss.toArray).toList[j]? := by rw [ht, flat_list]
  rw [List.getElem?_take_of_lt hj', Array.getElem?_toList, Array.getElem?_toList] at h1
  rw [h1, Array.getElem?_eq_getElem hj, getElem!_pos _ j hj]
  rfl
theorem take_putV (cur : Array Value) (ts : List VtD) (h : ts.length * 3 ≤ cur.size) : (putCells id 0 (flatK tcV 3 ts.toArray) cur).toList.take (ts.length * 3) = ts.flatMap tcV := by
  rw [← flat_list]
  have hs : (flatK tcV 3 ts.toArray).size = ts.length * 3 := by simp
  apply List.ext_getElem?
  intro j
  by_cases hj : j < ts.length * 3
  · rw [List.getElem?_take_of_lt hj, Array.getElem?_toList, Array.getElem?_toList]
    unfold putCells
    rw [Array.getElem?_mapIdx, Array.getElem?_eq_getElem (by omega), Option.map_some, if_pos ⟨Nat.zero_le _, by omega⟩, Nat.sub_zero, Array.getElem?_eq_getElem (by omega), getElem!_pos _ j (by omega)]
    rfl
  · rw [List.getElem?_take_eq_none (by omega), List.getElem?_eq_none (by rw [Array.length_toList]; omega)]
theorem swo_cmp : SWO (ltOf cmpT) := by
  have e : ∀ x y, ltOf cmpT x y = tltB x y := fun x y => by
    unfold ltOf
    exact cmpT_lt
  refine ⟨fun x => ?_, fun x y z h1 h2 => ?_, fun x y z h1 h2 => ?_⟩
  · rw [e, tltB_no]
    exact fun h => VtD.lt_irrefl h
  · rw [e, tltB_iff] at *
    exact VtD.lt_trans h1 h2
  · rw [e, tltB_no] at *
    unfold VtD.lt at *
    omega
theorem sortsV : SortsV := by
  intro g cap ss w cur hb hc hl ht hlen
  have hgl : g < w.heap.size := (Array.getElem?_eq_some_iff.1 hb).1
  have h := AnyQ.slices_SortFunc Try.sortV 3 Try.isAgg34 Try.sizeOf34 tcV (fun _ => rfl) (fun x v hv => by simp at hv; rcases hv with rfl | rfl | rfl <;> rfl) cmpT swo_cmp 57 #[] g 0 cap ss.toArray w
    (enters_of Try.func57 (by kernel_rfl) rfl) (fun _ _ _ _ x y => cmpv_any x.r x.a x.d y.r y.a y.d _) (holds_rowV hb ht) hgl (by simp; omega)
  refine (show Calls Try.prog 63 #[.slice (some ⟨g, 0, none⟩) ss.toArray.size cap, .func (.func 57) #[] #[]] w _ from h).mono ?_
  rintro e w' ⟨rfl, d', n, os, hp, hs, rfl⟩
  have hsz : d'.size = ss.length := by
    have := hp.1
    simpa using this
  have hpm : d'.toList.Perm ss := by
    have := hp.2.2
    rw [show ss.toArray.size = ss.length by simp] at this
    have e1 : d'.extract 0 ss.length = d' := by rw [← hsz]; simp
    have e2 : ss.toArray.extract 0 ss.length = ss.toArray := by simp
    rw [e1, e2] at this
    exact this
  refine ⟨rfl, d'.toList, hpm, ?_, ?_, ?_⟩
  · rw [List.pairwise_iff_getElem]
    intro i j hi hj hij
    have h1 := hs i j (Nat.zero_le _) hij (by simp; rw [← hsz, ← Array.length_toList]; exact hj)
    rw [Array.length_toList] at hi hj
    rw [getElem!_pos d' j hj, getElem!_pos d' i hi] at h1
    have h2 : tltB d'[j] d'[i] = false := by
      rw [← cmpT_lt]
      exact h1
    simpa using tltB_no.1 h2
  · refine ⟨putCells id 0 (flatK tcV 3 d') cur, ?_, by simp [putCells, hc], ?_⟩
    · unfold sortWorldK putRowK
      rw [heap_grow_old _ _ (by simpa using hgl)]
      simp [putRow, mapBlock, Sort.ahead, Array.getElem?_modify, hb, onCells]
    · have e : d' = d'.toList.toArray := by simp
      have := take_putV cur d'.toList (by rw [Array.length_toList, hsz, hc]; omega)
      simpa using this
  · refine ⟨rfl, rfl, rfl, by simp [sortWorldK, putRowK], fun k hk hne => ?_⟩
    unfold sortWorldK putRowK
    rw [heap_grow_old _ _ (by simpa using hk)]
    have : g ≠ k := fun e => hne (by rw [e])
    simp [putRow, mapBlock, Sort.ahead, Array.getElem?_modify, this]
end Go.Proofs.Ytalbgcpfekmfoaa
