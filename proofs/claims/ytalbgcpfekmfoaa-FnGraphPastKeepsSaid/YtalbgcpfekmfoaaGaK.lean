/-
slices.Insert at vertices, by hand: the road in place.
No conditions.
-/
import Derived.Test.YtalbgcpfekmfoaaGaI
namespace Go.Proofs.Ytalbgcpfekmfoaa
open Go Go.Vc Go.RowKit Go.Lib Go.Proofs
set_option maxHeartbeats 4000000
set_option maxRecDepth 100000
/-- A copy of the first k elements. -/
theorem copy_min {w : World} {g off n cap m k : Nat} {cur : Array Value} {bt : TypeId} (hg : w.heap[g]? = some (.cells cur bt (0, 0))) {a : Addr} {cap' : Nat} {news : List Value} (hk : Nat.min m n = k) (hl : news.length = k * 4)
    (hf : ∀ (j : Nat) v, news[j]? = some v → w.cell? (a.add j) = some v) (h1 : ∀ u ∈ news, u.oneCell' = true) (hfit : off + news.length ≤ cur.size) (ty : TypeId) :
    (Builtin.copy_ #[41, 41] ty #[.slice (some ⟨g, off, none⟩) n cap, .slice (some a) m cap']).run Try.prog w = .ok (.int .i64 k) (w.setRow g (cur.toList.take off ++ news ++ cur.toList.drop (off + news.length)).toArray) := by
  obtain ⟨i, hi, _, hs, _⟩ := info_parts vx_info
  have hst := run_storeCells_at Try.prog g off bt news 0 cur w hg (by simpa using hfit) h1
  simp only [Nat.add_zero] at hst
  have hfc := run_firstCells_some (P := Try.prog) (w := w) 4 k a m cap' news hl hf
  have hse : (sizeOf 43).run Try.prog w = .ok 4 w := by simp [sizeOf, typeInfo, hi, hs]
  simp [Builtin.copy_, run_underlying vx_und, Builtin.lenOf, hse, hk, hfc, hst, goInt]
theorem ins_fit {W : World} {b n c i vb vc : Nat} {cur vv : Array Value} {T Tv : TypeId} (hb : W.heap[b]? = some (.cells cur T (0, 0))) (hfit : c * 4 ≤ cur.size) (h1 : ∀ u ∈ cur.toList, u.oneCell' = true) (hi : i < n) (hroom : n + 1 ≤ c) (hc63 : c ≤ 9223372036854775807) (hn : n < 2000000)
    (hv : W.heap[vb]? = some (.cells vv Tv (0, 0))) (hvs : 4 ≤ vv.size) (h1v : ∀ u ∈ vv.toList, u.oneCell' = true) (hne : vb ≠ b) :
    Calls Try.prog 47 #[.slice (some ⟨b, 0, none⟩) n c, .int .i64 i, .slice (some ⟨vb, 0, none⟩) 1 vc] W fun e w' => ∃ (vs : Array Value),
      e = .returned (.slice (some ⟨b, 0, none⟩) (n + 1) c) ∧ vs.size = cur.size ∧ vs.toList.take ((n + 1) * 4) = cur.toList.take (i * 4) ++ vv.toList.take 4 ++ (cur.toList.take (n * 4)).drop (i * 4) ∧ (∀ u ∈ vs.toList, u.oneCell' = true) ∧
      ∃ q, w' = (W.setRow b vs).drewN q := by
  obtain ⟨ti, hti, htz, hts, htb⟩ := info_parts vx_info
  have ln : ((cur.toList.take (n * 4)).drop (i * 4)).length = (n - i) * 4 := by
    rw [List.length_drop, List.length_take, Array.length_toList]
    omega
  have lv : (vv.toList.take 4).length = 4 := by
    rw [List.length_take, Array.length_toList]
    omega
  have hov : ∀ lb cb, (callFunc 82 #[.slice (some ⟨vb, 0, none⟩) 1 vc, .slice (some ⟨b, (i + 1) * 4, none⟩) lb cb]).run Try.prog W = .ok (.value (.bool false)) W := fun lb cb => by
    have hsz : ∀ w, (Go.sizeOf 43).run Try.prog w = .ok 4 w := fun w => by simp [sizeOf, typeInfo, hti, hts]
    rw [run_callFunc_extern Try.func82 (by kernel_rfl) (by kernel_rfl) (by kernel_rfl) (e := Extern.SlicesOverlaps.overlaps #[41, 41] #[4]) (by kernel_rfl),
      Lib.run_overlaps_apart W 41 4 43 vx_und 4 hsz ⟨vb, 0, none⟩ ⟨b, (i + 1) * 4, none⟩ 1 vc lb cb hne Tv T vv.size cur.size (by simp [World.shape?, hv]) (by simp [World.shape?, hb]) (by omega) (by simp [World.frozen?, hv]) (by simp [World.frozen?, hv])]
    rfl
  obtain ⟨R1, hR1e⟩ : ∃ R1 : Array Value, R1 = (cur.toList.take ((i + 1) * 4) ++ (cur.toList.take (n * 4)).drop (i * 4) ++ cur.toList.drop ((i + 1) * 4 + ((cur.toList.take (n * 4)).drop (i * 4)).length)).toArray := ⟨_, rfl⟩
  have hcpA : ∀ (W' : World), W'.heap = W.heap → ∀ ty cap sc, (Builtin.copy_ #[41, 41] ty #[.slice (some ⟨b, (i + 1) * 4, none⟩) (n + 1 - (i + 1)) cap, .slice (some ⟨b, i * 4, none⟩) (n + 1 - i) sc]).run Try.prog W' = .ok (.int .i64 (n - i : Nat)) (W'.setRow b R1) := fun W' hW ty cap sc => by
    rw [hR1e]
    exact copy_min (w := W') (by rw [hW]; exact hb) (show min (n + 1 - i) (n + 1 - (i + 1)) = n - i by omega) ln (fun j v hj => by
      rw [Addr.add_lit, cell_heap (w := W) (by rw [hW]), cell_of_row W b _ cur T (0, 0) hb]
      rw [List.getElem?_drop, List.getElem?_take] at hj
      split at hj
      · simpa using hj
      · cases hj) (fun u hu => h1 u (List.mem_of_mem_take (List.mem_of_mem_drop hu))) (by rw [ln]; omega) ty
  obtain ⟨R2, hR2e⟩ : ∃ R2 : Array Value, R2 = (R1.toList.take (i * 4) ++ vv.toList.take 4 ++ R1.toList.drop (i * 4 + (vv.toList.take 4).length)).toArray := ⟨_, rfl⟩
  have l1 : (cur.toList.take ((i + 1) * 4)).length = (i + 1) * 4 := by
    rw [List.length_take, Array.length_toList]
    omega
  have hR1l : R1.size = cur.size := by
    rw [hR1e, ← Array.length_toList]
    simp only [List.length_append, l1, ln, List.length_drop, Array.length_toList]
    omega
  have hR1c : ∀ u ∈ R1.toList, u.oneCell' = true := by
    intro u hu
    rw [hR1e] at hu
    rcases List.mem_append.1 hu with hu | hu
    · rcases List.mem_append.1 hu with hu | hu
      · exact h1 u (List.mem_of_mem_take hu)
      · exact h1 u (List.mem_of_mem_take (List.mem_of_mem_drop hu))
    · exact h1 u (List.mem_of_mem_drop hu)
  have hcpB : ∀ (W' : World), W'.heap = (W.setRow b R1).heap → ∀ ty cap, (Builtin.copy_ #[41, 41] ty #[.slice (some ⟨b, i * 4, none⟩) (n + 1 - i) cap, .slice (some ⟨vb, 0, none⟩) 1 vc]).run Try.prog W' = .ok (.int .i64 1) (W'.setRow b R2) := fun W' hW ty cap => by
    rw [hR2e]
    exact copy_min (w := W') (k := 1) (by rw [hW]; exact setRow_heap _ _ cur _ _ (0, 0) hb) (show min 1 (n + 1 - i) = 1 by omega) lv (fun j v hj => by
      rw [Addr.add_lit, cell_heap (w := W) (by rw [hW, setRow_other _ _ _ _ hne]), cell_of_row W vb _ vv Tv (0, 0) hv]
      rw [List.getElem?_take] at hj
      split at hj
      · simpa using hj
      · cases hj) (fun u hu => h1v u (List.mem_of_mem_take hu)) (by rw [lv, hR1l]; omega) ty
  have e1 : R1.toList = cur.toList.take ((i + 1) * 4) ++ ((cur.toList.take (n * 4)).drop (i * 4) ++ cur.toList.drop ((i + 1) * 4 + ((cur.toList.take (n * 4)).drop (i * 4)).length)) := by
    rw [hR1e, List.append_assoc]
  have hfin : R2.size = cur.size ∧ R2.toList.take ((n + 1) * 4) = cur.toList.take (i * 4) ++ vv.toList.take 4 ++ (cur.toList.take (n * 4)).drop (i * 4) ∧ ∀ u ∈ R2.toList, u.oneCell' = true := by
    have l0 : (cur.toList.take (i * 4)).length = i * 4 := by
      rw [List.length_take, Array.length_toList]
      omega
    have t0 : R1.toList.take (i * 4) = cur.toList.take (i * 4) := by
      rw [e1, List.take_append_of_le_length (by omega), List.take_take, show min (i * 4) ((i + 1) * 4) = i * 4 by omega]
    have d0 : R1.toList.drop (i * 4 + (vv.toList.take 4).length) = (cur.toList.take (n * 4)).drop (i * 4) ++ cur.toList.drop ((i + 1) * 4 + ((cur.toList.take (n * 4)).drop (i * 4)).length) := by
      rw [e1, lv, show i * 4 + 4 = (i + 1) * 4 by omega]
      exact List.drop_left' l1
    have e2 : R2.toList = (cur.toList.take (i * 4) ++ vv.toList.take 4 ++ (cur.toList.take (n * 4)).drop (i * 4)) ++ cur.toList.drop ((i + 1) * 4 + ((cur.toList.take (n * 4)).drop (i * 4)).length) := by
      rw [hR2e, t0, d0, ← List.append_assoc]
    refine ⟨?_, ?_, fun u hu => ?_⟩
    · rw [← Array.length_toList, e2]
      simp only [List.length_append, l0, lv, ln, List.length_drop, Array.length_toList]
      omega
    · rw [e2]
      refine List.take_left' ?_
      simp only [List.length_append, l0, lv, ln]
      omega
    · rw [e2] at hu
      rcases List.mem_append.1 hu with hu | hu
      · rcases List.mem_append.1 hu with hu | hu
        · rcases List.mem_append.1 hu with hu | hu
          · exact h1 u (List.mem_of_mem_take hu)
          · exact h1v u (List.mem_of_mem_take hu)
        · exact h1 u (List.mem_of_mem_take (List.mem_of_mem_drop hu))
      · exact h1 u (List.mem_of_mem_drop hu)
  have hz1 : ¬ ((1 : Int) = 0) := by omega
  have hz2 : ¬ ((i : Int) = (n : Int)) := by omega
  have hz3 : ¬ ((c : Int) < (n : Int) + 1) := by omega
  have hin : i ≤ n := by omega
  have hb3 : (i : Int) ≤ (n : Int) := by omega
  have hic : i ≤ c := by omega
  refine Calls.mono (R := fun e w' => e = .returned (.slice (some ⟨b, 0, none⟩) (n + 1) c) ∧ ∃ q, w' = (W.setRow b R2).drewN q) ?_ fun e w' h => ⟨R2, h.1, hfin.1, hfin.2.1, hfin.2.2, h.2⟩
  have hci : ¬ (c = i) := by omega
  have hci1 : ¬ (c = i + 1) := by omega
  have hw1 : IntKind.i64.wrap ((i : Int) + 1) = (i : Int) + 1 := by rw [IntKind.wrap_i64]; omega
  have hb1 : (0 : Int) ≤ (i : Int) + 1 := by omega
  have htn : ((i : Int) + 1).toNat = i + 1 := by omega
  have hb4 : (i : Int) ≤ (n : Int) + 1 := by omega
  have mixed : Try.prog.follows Departure.mixedOrders = true := by kernel_rfl
  have hxB := hcpB (W.drew.setRow b R1) rfl 3 (c - i)
  have hss : ∀ (w : World) (x y : Array Value), (w.setRow b x).setRow b y = w.setRow b y := fun w x y => by
    unfold World.setRow
    congr 1
    apply Array.ext_getElem?
    intro k
    simp only [Array.getElem?_modify]
    by_cases e : b = k
    · simp only [if_pos e]
      cases w.heap[k]? with
      | none => rfl
      | some o => cases o <;> rfl
    · simp only [if_neg e]
  clear hb hfit h1 hv h1v ln lv hR1e hR2e hR1l hR1c l1 hfin e1
  go_enter Try.func47, Try.ntmps47
  go_wp2_with (simp only [hov])
  go_region_law_o (refine step_copy_runI rfl _ _ 41 41 rfl (.slice (some ⟨b, (i + 1) * 4, none⟩) (n + 1 - (i + 1)) (c - (i + 1))) (.slice (some ⟨b, i * 4, none⟩) (n + 1 - i) (c - i)) (by simp [Act.eval, Act.put]) (by simp [Act.eval, Act.put]) (hcpA _ (by rfl) 3 (c - (i + 1)) (c - i)) ?_)
  go_wp2_with (simp only [hxB])
  go_ret
  exact ⟨rfl, 1, rfl⟩
end Go.Proofs.Ytalbgcpfekmfoaa
