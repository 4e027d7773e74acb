/-
What a library function that writes a row of numbers in place leaves, told by its shelf contract.
No conditions.
-/
import Derived.Test.YtgfpcjomgmdapaaVcUse
import Derived.Test.YtgfpcjomgmdapaaVcEnd
import Derived.Sort.Row
namespace Go.Vc
open Go.Sort
variable {P : Program} {E : Entry} {w : World} {ρ : Nat → Nat} {A : FA}

theorem putRow_setRow {α : Type} [Inhabited α] {enc : α → Value} {b : Nat} {d : Array α} {vs : Array Value} {T : TypeId} {fr : Nat × Nat} (h : w.heap[b]? = some (.cells vs T fr)) : putRow enc w b 0 d = w.setRow b (putCells enc 0 d vs) := by
  have e : putRow enc w b 0 d = mapBlock w b fun _ => putCells enc 0 d vs := mapBlock_congr _ _ _ _ fun c e fr' h' => by rw [h] at h'; cases h'; rfl
  rw [e]
  unfold mapBlock World.setRow
  congr 2
/-- A state without slots. -/
theorem SatW.bare {H : Nat → AO} {F : List Fam} (h : SatW E H F w ρ A) : Sat E ⟨fun _ => .any, H, F⟩ 0 ⟨#[], []⟩ w ρ A := { h with env := fun _ => .any _, tsize := rfl, defers := .nil }
theorem Sat.ahead {S : FS} {tm : Nat} {a : Act} (h : Sat E S tm a w ρ A) (q : Nat) : Sat E S tm a (Sort.ahead w q) ρ A :=
  h.turn (w' := Sort.ahead w q) rfl rfl rfl (Nat.le_refl _) (fun _ _ _ _ hb => hb) (fun _ _ => rfl) rfl ⟨h.defers.1, h.defers.2⟩
theorem get_putCells {d : List Int} {vs : Array Value} {i : Nat} (hi : i < d.length) (hv : i < vs.size) : (putCells (Value.int .i64) 0 d.toArray vs)[i]? = some (.int .i64 (d.getD i 0)) := by
  simp [putCells, hi, hv, List.getD]
/-- Object k holds l2 now. -/
theorem SatW.put {H : Nat → AO} {F : List Fam} (h : SatW E H F w ρ A) {k : Nat} {l l2 : List Int} (hk : H k = .iarr l) {d : List Int} (hd : d.length = l.length) (hp : l2 = d.take l2.length) (hle : l2.length ≤ d.length) (q : Nat) :
    SatW E (mapH (killF k) H k (.iarr l2)) F (putRow (Value.int .i64) (Sort.ahead w q) (ρ k) 0 d.toArray) ρ A ∧ ∀ n, (ctxOf E H w ρ A).room k n → ∀ H' A', (ctxOf E H' (putRow (Value.int .i64) (Sort.ahead w q) (ρ k) 0 d.toArray) ρ A').room k n := by
  have hs := (h.bare.ahead q)
  have ho := hs.obj k
  have ho : RepO (ctxOf E H (Sort.ahead w q) ρ A) k (H k) := ho
  rw [hk] at ho
  obtain ⟨vs, T, h1, h2, h3, h4⟩ := ho
  have h1 : (Sort.ahead w q).heap[ρ k]? = some (.cells vs T (0, 0)) := h1
  have hal : alive H k := by rw [alive, hk]; simp
  have hsz : (putCells (Value.int .i64) 0 d.toArray vs).size = vs.size := by simp [putCells]
  rw [Nat.mul_one] at h2
  have hobj : ∀ c : Ctx, c.w.heap[c.ρ k]? = some (.cells (putCells (Value.int .i64) 0 d.toArray vs) T (0, 0)) → RepO c k (.iarr l2) := by
    intro c hb
    refine ⟨_, T, hb, by rw [hsz]; omega, fun v hv => ?_, fun i e j a v hi hj hv => ?_⟩
    · obtain ⟨i, hi, rfl⟩ := List.getElem_of_mem hv
      simp only [putCells, Array.toList_mapIdx, List.getElem_mapIdx]
      split
      · rfl
      · exact h3 _ (List.getElem_mem _)
    · obtain ⟨x, hx, rfl⟩ := icells_get.1 hi
      cases j with
      | succ j => simp at hj
      | zero =>
        simp only [List.getElem?_cons_zero, Option.some.injEq] at hj
        subst hj
        have hil := (List.getElem?_eq_some_iff.1 hx).1
        rw [Nat.mul_one, Nat.add_zero, get_putCells (by omega) (by omega)] at hv
        rw [hp, List.getElem?_take, if_pos hil] at hx
        simp only [Option.some.injEq] at hv
        subst hv
        have : d.getD i 0 = x := by simp [List.getD, hx]
        rw [this]
        exact ⟨.val _, rfl⟩
  rw [putRow_setRow h1]
  -- the size of the row may shrink: the object is laid anew in its block
  have st : StepOk E H (Sort.ahead w q) ρ A k (.iarr l2) (ρ k) ((Sort.ahead w q).setRow (ρ k) (putCells (Value.int .i64) 0 d.toArray vs)) (mapH (killF k) H k (.iarr l2)) :=
    ⟨rfl, rfl, rfl, by simp, fun b' _ hne => setRow_other _ _ _ _ (hne hal), fun _ => ⟨by simpa using (h.place k hal).1, .inl ⟨hal, rfl⟩⟩, fun i hi => by simp [alive, mapH, hi, mapO_dead], by simp [mapH], fun cs e => (by cases e), fun _ _ _ => ⟨rfl, hal⟩,
      fun _ _ _ us T' fr h0 => ⟨_, T, (0, 0), setRow_heap _ _ vs _ T (0, 0) h1, by rw [h1] at h0; cases h0; rw [hsz]; exact Nat.le_refl _⟩⟩
  have hnew : ((Sort.ahead w q).setRow (ρ k) (putCells (Value.int .i64) 0 d.toArray vs)).heap[ρ k]? = some (.cells (putCells (Value.int .i64) 0 d.toArray vs) T (0, 0)) := setRow_heap _ _ vs _ T (0, 0) h1
  refine ⟨?_, ?_⟩
  · have := (hs.stepMap (killF k) st (fun r hr => by simp [killF, hr]) (hobj _ (by show ((Sort.ahead w q).setRow (ρ k) (putCells (Value.int .i64) 0 d.toArray vs)).heap[setρ ρ k (ρ k) k]? = _; rw [setρ_self]; exact hnew)) fun r u hr _ => by simp only [killF, hr, if_true]; exact .any u).toSatW
    rw [setρ_self] at this
    exact this
  · rintro n ⟨us, T', fr, g1, g2⟩ H' A'
    have g1 : (Sort.ahead w q).heap[ρ k]? = some (.cells us T' fr) := g1
    rw [h1] at g1
    cases g1
    exact ⟨_, T, (0, 0), hnew, by rw [hsz]; exact g2⟩
end Go.Vc
