/-
slices.Insert at vertices, by hand: the road to a new row.
No conditions.
-/
import Derived.Test.YtalbgcpfekmfoaaGaC
import Derived.Shelf.Spec.SlicesInsertGrow
import Derived.Deep.WholeRow
namespace Go.Proofs.Ytalbgcpfekmfoaa
open Go Go.Vc Go.RowKit Go.Lib Go.Proofs
set_option maxHeartbeats 4000000
set_option maxRecDepth 100000
abbrev zVx : Value := .agg #[.int .i64 0, .int .i64 0, .slice none 0 0, .int .i64 0]
theorem vx_info : (Try.prog.info? 43).map (fun i => (i.zero, i.size, i.bytes)) = some (some zVx, 4, 48) := by kernel_rfl
theorem vx_und : Try.prog.underlying 41 = some (.slice 43) := by kernel_rfl
theorem int_und : Try.prog.underlying 3 = some (.int .i64) := by kernel_rfl
/-- A copy of m elements into a row, known by its cells; the world counts by its heap alone. -/
theorem copy_run {w : World} {g off n cap m : Nat} {cur : Array Value} {bt : TypeId} (hg : w.heap[g]? = some (.cells cur bt (0, 0))) {a : Addr} {cap' : Nat} {news : List Value} (hm : m ≤ n) (hl : news.length = m * 4)
    (hf : ∀ (j : Nat) v, news[j]? = some v → w.cell? (a.add j) = some v) (h1 : ∀ u ∈ news, u.oneCell' = true) (hfit : off + news.length ≤ cur.size) (ty : TypeId) :
    (Builtin.copy_ #[41, 41] ty #[.slice (some ⟨g, off, none⟩) n cap, .slice (some a) m cap']).run Try.prog w = .ok (.int .i64 m) (w.setRow g (cur.toList.take off ++ news ++ cur.toList.drop (off + news.length)).toArray) := by
  obtain ⟨i, hi, _, hs, _⟩ := info_parts vx_info
  have hst := run_storeCells_at Try.prog g off bt news 0 cur w hg (by simpa using hfit) h1
  simp only [Nat.add_zero] at hst
  have hmn : Nat.min m n = m := Nat.min_eq_left hm
  have hfc := run_firstCells_some (P := Try.prog) (w := w) 4 m a m cap' news hl hf
  have hse : (sizeOf 43).run Try.prog w = .ok 4 w := by simp [sizeOf, typeInfo, hi, hs]
  simp [Builtin.copy_, run_underlying vx_und, Builtin.lenOf, hse, hmn, hfc, hst, goInt]
theorem cell_heap {w w' : World} {b x : Nat} (h : w'.heap[b]? = w.heap[b]?) : w'.cell? ⟨b, x, none⟩ = w.cell? ⟨b, x, none⟩ := by
  simp [World.cell?, h]
theorem zeros_list (k : Nat) : ∀ u ∈ (Builtin.zeroCells zVx.cells k).toList, u.oneCell' = true := by
  intro u hu
  have : u ∈ zVx.cells := by
    have hu := Array.mem_toList_iff.1 hu
    simp [Builtin.zeroCells] at hu
    obtain ⟨a, _, rfl⟩ := hu
    have h4 : zVx.cells.size = 4 := rfl
    rw [h4]
    have h5 := Nat.mod_lt a (show 0 < 4 by omega)
    rw [getElem!_pos zVx.cells (a % 4) (by omega)]
    exact Array.getElem_mem _
  simp [Value.cells] at this
  rcases this with rfl | rfl | rfl <;> rfl
theorem zeros_size (k : Nat) : (Builtin.zeroCells zVx.cells k).size = k * 4 := by
  simp [Builtin.zeroCells, Value.cells]
theorem ins_grow {W : World} {b n c i vb voff vc : Nat} {cur : Array Value} {T : TypeId} (hb : W.heap[b]? = some (.cells cur T (0, 0))) (hfit : n * 4 ≤ cur.size) (h1 : ∀ u ∈ cur.toList, u.oneCell' = true) (hi : i < n) (hnc : n ≤ c) (hroom : c < n + 1) (hn : n < 2000000)
    {nv : List Value} (hnl : nv.length = 4) (hnv : ∀ (j : Nat) v, nv[j]? = some v → W.cell? ⟨vb, voff + j, none⟩ = some v) (h1v : ∀ u ∈ nv, u.oneCell' = true) :
    Calls Try.prog 47 #[.slice (some ⟨b, 0, none⟩) n c, .int .i64 i, .slice (some ⟨vb, voff, none⟩) 1 vc] W fun e w' => ∃ (G : Nat) (vs : Array Value),
      e = .returned (.slice (some ⟨W.heap.size, 0, none⟩) (n + 1) G) ∧ n + 1 ≤ G ∧ G ≤ 9223372036854775807 ∧ G * 4 ≤ vs.size ∧ vs.toList.take ((n + 1) * 4) = cur.toList.take (i * 4) ++ nv ++ (cur.toList.take (n * 4)).drop (i * 4) ∧ (∀ u ∈ vs.toList, u.oneCell' = true) ∧
      ∃ q, w' = (W.alloc (.cells vs 43)).drewN q := by
  obtain ⟨ti, hti, htz, hts, htb⟩ := info_parts vx_info
  obtain ⟨G, hG⟩ : ∃ G, G = grownCap W (n + 1) c 43 := ⟨_, rfl⟩
  have hGn : n + 1 ≤ G := by rw [hG]; exact grownCap_ge W _ _ _
  have hG63 : G ≤ 9223372036854775807 := by
    have := grownCap_le_maxLen W (n + 1) c 43 (by unfold maxLen; omega)
    rw [← hG] at this
    unfold maxLen at this
    omega
  obtain ⟨R0, hR0⟩ : ∃ R0 : Array Value, R0 = (cur.toList.take (i * 4)).toArray ++ Builtin.zeroCells zVx.cells (n + 1 - i) ++ Builtin.zeroCells zVx.cells (G - (n + 1)) := ⟨_, rfl⟩
  have hrz : ∀ ty, (Builtin.append_ #[41, 3] ty #[.slice (some ⟨b, 0, none⟩) i c, .int .i64 ((n : Int) + 1 - (i : Int))]).run Try.prog W = .ok (.slice (some ⟨W.heap.size, 0, none⟩) (n + 1) G) (W.drew.alloc (.cells R0 43)) := fun ty => by
    have hold : (Builtin.firstCells ti.size i (.slice (some ⟨b, 0, none⟩) i c)).run Try.prog W.drew = .ok (cur.toList.take (i * 4)).toArray W.drew := by
      rw [hts]
      refine run_firstCells_some (w := W.drew) 4 i ⟨b, 0, none⟩ i c _ (by rw [List.length_take, Array.length_toList]; omega) (fun j v hj => ?_)
      rw [List.getElem?_take] at hj
      split at hj
      · rw [Addr.add_lit, Nat.zero_add]
        show W.cell? ⟨b, j, none⟩ = some v
        rw [cell_of_row W b _ cur T (0, 0) hb]
        simpa using hj
      · cases hj
    have h := Lib.run_append_grow_zeros W 41 3 ty 43 ti _ .i64 .i64 vx_und int_und hti htz (some ⟨b, 0, none⟩) i c _ hold (n + 1 - i) (by omega) (by omega) (by omega) (by omega) (by rw [htb]; omega) (by rw [htb, show i + (n + 1 - i) = n + 1 by omega]; exact growslice_fits hroom (by omega))
    rw [show i + (n + 1 - i) = n + 1 by omega, ← hG, ← hR0] at h
    rw [show (n : Int) + 1 - (i : Int) = ((n + 1 - i : Nat) : Int) by omega]
    exact h
  have hR0l : R0.size = G * 4 := by
    rw [hR0, Array.size_append, Array.size_append, zeros_size, zeros_size]
    simp
    omega
  have hR1 : ∀ u ∈ R0.toList, u.oneCell' = true := by
    intro u hu
    rw [hR0, Array.toList_append, Array.toList_append] at hu
    rcases List.mem_append.1 hu with hu | hu
    · rcases List.mem_append.1 hu with hu | hu
      · exact h1 u (List.mem_of_mem_take (by simpa using hu))
      · exact zeros_list _ u hu
    · exact zeros_list _ u hu
  have hbl : b < W.heap.size := (Array.getElem?_eq_some_iff.1 hb).1
  have hvl : vb < W.heap.size := by
    have := hnv 0 _ (List.getElem?_eq_getElem (by omega))
    exact block_lt_of_cell this
  obtain ⟨R1, hR1e⟩ : ∃ R1 : Array Value, R1 = (R0.toList.take (i * 4) ++ nv ++ R0.toList.drop (i * 4 + nv.length)).toArray := ⟨_, rfl⟩
  have l0 : (cur.toList.take (i * 4)).length = i * 4 := by
    rw [List.length_take, Array.length_toList]
    omega
  have t0 : R0.toList.take (i * 4) = cur.toList.take (i * 4) := by
    rw [hR0, Array.toList_append, Array.toList_append, List.append_assoc]
    exact List.take_left' l0
  have e1 : R1.toList = (cur.toList.take (i * 4) ++ nv) ++ R0.toList.drop (i * 4 + nv.length) := by
    rw [hR1e, t0]
  have l1 : (cur.toList.take (i * 4) ++ nv).length = (i + 1) * 4 := by
    rw [List.length_append, l0, hnl]
    omega
  have hR1l : R1.size = G * 4 := by
    rw [← Array.length_toList, e1, List.length_append, l1, List.length_drop, Array.length_toList, hR0l, hnl]
    omega
  have hR1c : ∀ u ∈ R1.toList, u.oneCell' = true := by
    intro u hu
    rw [e1] at hu
    rcases List.mem_append.1 hu with hu | hu
    · rcases List.mem_append.1 hu with hu | hu
      · exact h1 u (List.mem_of_mem_take hu)
      · exact h1v u hu
    · exact hR1 u (List.mem_of_mem_drop hu)
  have ln : ((cur.toList.take (n * 4)).drop (i * 4)).length = n * 4 - i * 4 := by
    rw [List.length_drop, List.length_take, Array.length_toList]
    omega
  have hcpA : ∀ (W' : World), W'.heap = (W.alloc (.cells R0 43)).heap → ∀ ty cap, (Builtin.copy_ #[41, 41] ty #[.slice (some ⟨W.heap.size, i * 4, none⟩) (n + 1 - i) cap, .slice (some ⟨vb, voff, none⟩) 1 vc]).run Try.prog W' = .ok (.int .i64 1) (W'.setRow W.heap.size R1) := fun W' hW ty cap => by
    rw [hR1e]
    exact copy_run (w := W') (by rw [hW]; exact Go.heap_alloc_new _ _) (m := 1) (by omega) (by omega) (fun j v hj => by rw [Addr.add_lit, cell_heap (w := W) (by rw [hW]; exact Go.heap_alloc_old _ _ hvl)]; exact hnv j v hj) h1v (by omega) ty
  obtain ⟨R2, hR2e⟩ : ∃ R2 : Array Value, R2 = (R1.toList.take ((i + 1) * 4) ++ (cur.toList.take (n * 4)).drop (i * 4) ++ R1.toList.drop ((i + 1) * 4 + ((cur.toList.take (n * 4)).drop (i * 4)).length)).toArray := ⟨_, rfl⟩
  have hcpB : ∀ (W' : World), W'.heap = ((W.alloc (.cells R0 43)).setRow W.heap.size R1).heap → ∀ ty cap sc, (Builtin.copy_ #[41, 41] ty #[.slice (some ⟨W.heap.size, (i + 1) * 4, none⟩) (n + 1 - (i + 1)) cap, .slice (some ⟨b, i * 4, none⟩) (n - i) sc]).run Try.prog W' = .ok (.int .i64 (n - i : Nat)) (W'.setRow W.heap.size R2) := fun W' hW ty cap sc => by
    rw [hR2e]
    exact copy_run (w := W') (by rw [hW]; exact setRow_heap _ _ R0 _ _ (0, 0) (Go.heap_alloc_new _ _)) (by omega) (by simp; omega) (fun j v hj => by
      rw [Addr.add_lit, cell_heap (w := W) (by rw [hW, setRow_other _ _ _ _ (by omega)]; exact Go.heap_alloc_old _ _ hbl), cell_of_row W b _ cur T (0, 0) hb]
      rw [List.getElem?_drop, List.getElem?_take] at hj
      split at hj
      · simpa using hj
      · cases hj) (fun u hu => h1 u (List.mem_of_mem_take (List.mem_of_mem_drop hu))) (by rw [ln]; omega) ty
  have hfin : G * 4 ≤ R2.size ∧ R2.toList.take ((n + 1) * 4) = cur.toList.take (i * 4) ++ nv ++ (cur.toList.take (n * 4)).drop (i * 4) ∧ ∀ u ∈ R2.toList, u.oneCell' = true := by
    have t1 : R1.toList.take ((i + 1) * 4) = cur.toList.take (i * 4) ++ nv := by
      rw [e1]
      exact List.take_left' l1
    have e2 : R2.toList = (cur.toList.take (i * 4) ++ nv ++ (cur.toList.take (n * 4)).drop (i * 4)) ++ R1.toList.drop ((i + 1) * 4 + ((cur.toList.take (n * 4)).drop (i * 4)).length) := by
      rw [hR2e, t1]
    have l2 : (cur.toList.take (i * 4) ++ nv ++ (cur.toList.take (n * 4)).drop (i * 4)).length = (n + 1) * 4 := by
      rw [List.length_append, l1, ln]
      omega
    refine ⟨?_, ?_, fun u hu => ?_⟩
    · rw [← Array.length_toList, e2, List.length_append, l2, List.length_drop, ln, Array.length_toList, hR1l]
      omega
    · rw [e2]
      exact List.take_left' l2
    · rw [e2] at hu
      rcases List.mem_append.1 hu with hu | hu
      · rcases List.mem_append.1 hu with hu | hu
        · rcases List.mem_append.1 hu with hu | hu
          · exact h1 u (List.mem_of_mem_take hu)
          · exact h1v u hu
        · exact h1 u (List.mem_of_mem_take (List.mem_of_mem_drop hu))
      · exact hR1c u (List.mem_of_mem_drop hu)
  have hz1 : ¬ ((1 : Int) = 0) := by omega
  have hz2 : ¬ ((i : Int) = (n : Int)) := by omega
  have hz3 : (c : Int) < (n : Int) + 1 := by omega
  have hin : i ≤ n := by omega
  have hb3 : (i : Int) ≤ (n : Int) := by omega
  have hic : i ≤ c := by omega
  refine Calls.mono (R := fun e w' => e = .returned (.slice (some ⟨W.heap.size, 0, none⟩) (n + 1) G) ∧ ∃ q, w' = (W.alloc (.cells R2 43)).drewN q) ?_ fun e w' h => ⟨G, R2, h.1, hGn, hG63, hfin.1, hfin.2.1, hfin.2.2, h.2⟩
  have hxA := hcpA ((W.alloc (.cells R0 43)).drew) rfl 3 (G - i)
  have mixed : Try.prog.follows Departure.mixedOrders = true := by kernel_rfl
  have hGi : ¬ (G = i) := by omega
  have hGim : ¬ (G = i + 1) := by omega
  have hci : ¬ (c = i) := by omega
  have hw1 : IntKind.i64.wrap ((i : Int) + 1) = (i : Int) + 1 := by rw [IntKind.wrap_i64]; omega
  have hb1 : (0 : Int) ≤ (i : Int) + 1 := by omega
  have htn : ((i : Int) + 1).toNat = i + 1 := by omega
  clear hb hfit h1 hnv h1v hnl hR1e hR2e hR0l hR1 hfin hR0 hG l0 t0 e1 l1 hR1l hR1c ln
  go_enter Try.func47, Try.ntmps47
  go_wp2_with (first
    | (at_builtin; refine Lib.wpList_append_run _ rfl _ _ _ _ rfl _ _ rfl rfl _ _ (hrz _) ?_)
    | simp only [hxA])
  go_region_law_o (refine step_copy_runI rfl _ _ 41 41 rfl (.slice (some ⟨W.heap.size, (i + 1) * 4, none⟩) (n + 1 - (i + 1)) (G - (i + 1))) (.slice (some ⟨b, i * 4, none⟩) (n - i) (c - i)) (by simp [Act.eval, Act.put]) (by simp [Act.eval, Act.put]) (hcpB _ (by rfl) 3 (G - (i + 1)) (c - i)) ?_)
  go_wp2
  go_ret
  refine ⟨rfl, 2, ?_⟩
  show (((W.alloc (.cells R0 43)).setRow W.heap.size R1).setRow W.heap.size R2).drewN 2 = _
  rw [World.setRow_alloc_new, World.setRow_alloc_new]
end Go.Proofs.Ytalbgcpfekmfoaa
