/-
slices.Insert at vertices: the contract.
No conditions.
-/
import Derived.Test.YtalbgcpfekmfoaaGaJ
import Derived.Test.YtalbgcpfekmfoaaGaK
import Derived.Test.YtalbgcpfekmfoaaVcMH
namespace Go.Proofs.Ytalbgcpfekmfoaa
open Go Go.Vc
set_option maxHeartbeats 4000000
set_option maxRecDepth 10000
def c_ins : Con := ⟨0, 2, true, fun xs hs _ K => match xs, hs with
  | [.own 0, .val (.int .i64 i), .own 1], [.arr 4 rows, .arr 4 [e]] => ∃ (g : List VxD) (v : VxD) (p : Nat), rows = g.map VxD.row ∧ e = v.row ∧ g.length < 1000000 ∧ i = p ∧ p ≤ g.length ∧ K (.own 0) [.arr 4 ((insV g p v).map VxD.row), .arr 4 [v.row]] []
  | _, _ => False⟩
theorem row4 (g : List VxD) : ∀ e ∈ g.map VxD.row, e.length = 4 := by
  intro e he
  obtain ⟨u, _, rfl⟩ := List.mem_map.1 he
  rfl
theorem flat_take (g : List VxD) (p : Nat) (hp : p ≤ g.length) : (g.map VxD.row).flatten.take (p * 4) = ((g.take p).map VxD.row).flatten ∧ (g.map VxD.row).flatten.drop (p * 4) = ((g.drop p).map VxD.row).flatten := by
  have hl : ((g.take p).map VxD.row).flatten.length = p * 4 := by
    rw [flat_length (row4 _), List.length_map, List.length_take]
    omega
  have e : (g.map VxD.row).flatten = ((g.take p).map VxD.row).flatten ++ ((g.drop p).map VxD.row).flatten := by
    rw [← List.flatten_append, ← List.map_append, List.take_append_drop]
  rw [e]
  exact ⟨List.take_left' hl, List.drop_left' hl⟩
theorem ins_done {E : Entry} {Fs : List Fam} {g : List VxD} {v : VxD} {p : Nat} {K : AV → List AO → List Fam → Prop} (hp : p ≤ g.length) (hsat : SatW E (listH [.arr 4 (g.map VxD.row), .arr 4 [v.row]]) Fs E.w0 E.ρ0 E.A0) (hn0 : E.n0 = 2)
    {w' : World} {b cap' : Nat} {cur vs' : Array Value} {nv : List Value} {T' : TypeId}
    (hc : RepL (ctxOf E (listH [.arr 4 (g.map VxD.row), .arr 4 [v.row]]) E.w0 E.ρ0 E.A0) (g.map VxD.row).flatten (cur.toList.take (g.length * 4)))
    (hv : RepL (ctxOf E (listH [.arr 4 (g.map VxD.row), .arr 4 [v.row]]) E.w0 E.ρ0 E.A0) v.row nv)
    (ht : vs'.toList.take ((g.length + 1) * 4) = cur.toList.take (p * 4) ++ nv ++ (cur.toList.take (g.length * 4)).drop (p * 4))
    (st : StepOk E (listH [.arr 4 (g.map VxD.row), .arr 4 [v.row]]) E.w0 E.ρ0 E.A0 0 (.arr 4 ((insV g p v).map VxD.row)) b w' (mapH (killF 0) (listH [.arr 4 (g.map VxD.row), .arr 4 [v.row]]) 0 (.arr 4 ((insV g p v).map VxD.row))))
    (hb' : w'.heap[b]? = some (.cells vs' T' (0, 0))) (h1c : ∀ u ∈ vs'.toList, u.oneCell' = true) (hcap : g.length + 1 ≤ cap' ∧ cap' ≤ 9223372036854775807) (hsz : cap' * 4 ≤ vs'.size)
    (hK : K (.own 0) [.arr 4 ((insV g p v).map VxD.row), .arr 4 [v.row]] []) : Ret E c_ins Fs K (.returned (.slice (some ⟨b, 0, none⟩) (g.length + 1) cap')) w' := by
  have hil := ins_len (v := v) hp
  have hpure : ∀ y ∈ ((insV g p v).map VxD.row).flatten, pureB y = true := by
    intro y hy
    obtain ⟨e, he, hy⟩ := List.mem_flatten.1 hy
    obtain ⟨u, _, rfl⟩ := List.mem_map.1 he
    simp [VxD.row] at hy
    rcases hy with rfl | rfl | rfl | rfl <;> rfl
  have kp := st.keeps hsat
  have hgt : setρ E.ρ0 0 b 0 = b := by simp [setρ]
  have hrl : RepL (ctxOf E (listH [.arr 4 (g.map VxD.row), .arr 4 [v.row]]) E.w0 E.ρ0 E.A0) ((insV g p v).map VxD.row).flatten (vs'.toList.take ((g.length + 1) * 4)) := by
    obtain ⟨f1, f2⟩ := flat_take g p hp
    have e : ((insV g p v).map VxD.row).flatten = (g.map VxD.row).flatten.take (p * 4) ++ v.row ++ (g.map VxD.row).flatten.drop (p * 4) := by
      rw [f1, f2, insV, List.map_append, List.map_cons, List.flatten_append, List.flatten_cons, List.append_assoc]
    rw [e, ht]
    have h1 := hc.take (p * 4)
    rw [List.take_take, show min (p * 4) (g.length * 4) = p * 4 by omega] at h1
    exact (h1.append hv).append (hc.drop (p * 4))
  have hobj : RepO (ctxOf E (mapH (killF 0) (listH [.arr 4 (g.map VxD.row), .arr 4 [v.row]]) 0 (.arr 4 ((insV g p v).map VxD.row))) w' (setρ E.ρ0 0 b) E.A0) 0 (.arr 4 ((insV g p v).map VxD.row)) := by
    refine (repO_flat (by decide)).2 ⟨vs', T', by show w'.heap[setρ E.ρ0 0 b 0]? = _; rw [hgt]; exact hb', row4 _, h1c, ?_, ?_, hpure⟩
    · rw [List.length_map, hil]
      omega
    · rw [List.length_map, hil]
      exact hrl.mono fun y u hy hr => hr.pure_move kp (pureA_of_pureB (hpure y hy))
  have hs := (hsat.bare.stepMap (killF 0) st (fun r hr => by simp [killF, hr]) hobj fun r u hr _ => by simp only [killF, hr, if_true]; exact .any u).toSatW
  have eH : mapH (killF 0) (listH [.arr 4 (g.map VxD.row), .arr 4 [v.row]]) 0 (.arr 4 ((insV g p v).map VxD.row)) = listH [.arr 4 ((insV g p v).map VxD.row), .arr 4 [v.row]] := by
    funext k
    match k with
    | 0 => rfl
    | 1 => rfl
    | k + 2 => rfl
  simp only [eH] at hs
  refine ⟨_, _, _, [], _, _, rfl, hK, by rw [List.append_nil]; exact hs, ?_, by simp [hn0], by simp [hn0, c_ins], fun h => by cases h⟩
  refine own_rep (sz := 4) (by simp [listH, AO.info, hil]) hcap ⟨vs', T', (0, 0), ?_, hsz⟩ hgt
  show w'.heap[setρ E.ρ0 0 b 0]? = _
  rw [hgt]
  exact hb'
theorem k_slices_Insert_Vertex_n : Keeps' Try.prog 47 c_ins := by
  intro E args aargs hs Fs K hc hl hn0 hsat hrep hfx
  simp only [c_ins] at hc
  split at hc
  case h_2 => exact hc.elim
  rename_i i rows e
  obtain ⟨g, v, p, rfl, rfl, hg, rfl, hp, hK⟩ := hc
  by_cases hpe : p = g.length
  · subst hpe
    have e : insV g g.length v = g ++ [v] := by simp [insV]
    rw [e] at hK
    refine k_slices_Insert_Vertex E args _ _ Fs K ?_ hl hn0 hsat hrep hfx
    exact ⟨g, v, rfl, rfl, hg, rfl, hK⟩
  obtain ⟨a0, a1, a2, rfl⟩ : ∃ a0 a1 a2, args = [a0, a1, a2] := by
    rcases args with _ | ⟨a, _ | ⟨b, _ | ⟨c, _ | ⟨d, t⟩⟩⟩⟩ <;> simp at hl
    exact ⟨a, b, c, rfl⟩
  have r0 := hrep 0 _ a0 rfl rfl
  have r1 := hrep 1 _ a1 rfl rfl
  have r2 := hrep 2 _ a2 rfl rfl
  cases r1
  cases r0 with
  | own _ sz n cap hinf hcap hr =>
    cases r2 with
    | own _ sz2 n2 cap2 hinf2 hcap2 hr2 =>
      obtain ⟨rfl, rfl⟩ : 4 = sz ∧ (g.map VxD.row).length = n := by
        have h := Option.some.inj hinf
        exact ⟨congrArg Prod.fst h, congrArg Prod.snd h⟩
      obtain ⟨rfl, rfl⟩ : 4 = sz2 ∧ 1 = n2 := by
        have h := Option.some.inj hinf2
        exact ⟨congrArg Prod.fst h, congrArg Prod.snd h⟩
      rw [List.length_map] at hcap ⊢
      obtain ⟨cur, T, hb, _, h1c, hfit, hrl, _⟩ := (repO_flat (by decide)).1 (hsat.obj 0)
      obtain ⟨vv, Tv, hbv, _, h1v, hfv, hrv, _⟩ := (repO_flat (by decide)).1 (hsat.obj 1)
      have hb : E.w0.heap[E.ρ0 0]? = some (.cells cur T (0, 0)) := hb
      have hbv : E.w0.heap[E.ρ0 1]? = some (.cells vv Tv (0, 0)) := hbv
      rw [List.length_map] at hfit hrl
      have hfv : 4 ≤ vv.size := by simpa using hfv
      have hrv : RepL (ctxOf E (listH [.arr 4 (g.map VxD.row), .arr 4 [v.row]]) E.w0 E.ρ0 E.A0) v.row (vv.toList.take 4) := by simpa using hrv
      have hal0 : alive (listH [.arr 4 (g.map VxD.row), .arr 4 [v.row]]) 0 := by simp [alive, listH]
      have hal1 : alive (listH [.arr 4 (g.map VxD.row), .arr 4 [v.row]]) 1 := by simp [alive, listH]
      have hne : E.ρ0 1 ≠ E.ρ0 0 := fun e => by
        have := hsat.inj 1 0 hal1 hal0 e
        omega
      have hcs : cap * 4 ≤ cur.size := by
        obtain ⟨vs0, T0, fr0, q1, q2⟩ := hr
        have q1 : E.w0.heap[E.ρ0 0]? = some (.cells vs0 T0 fr0) := q1
        rw [hb] at q1
        cases q1
        exact q2
      have hnf : E.fx ≠ true := fun e => by
        have := hfx e
        simp [c_ins] at this
      by_cases hroom : g.length + 1 ≤ cap
      · refine (ins_fit (vc := cap2) hb hcs h1c (by omega) hroom hcap.2 (by omega) hbv hfv h1v hne).mono ?_
        rintro e w' ⟨vs, rfl, hs1, ht, h1, q, rfl⟩
        refine ins_done hp hsat hn0 hrl hrv ht ?_ (b := E.ρ0 0) (T' := T) ?_ h1 ⟨hroom, hcap.2⟩ (by rw [hs1]; exact hcs) hK
        · exact ⟨rfl, rfl, rfl, by show _ ≤ (E.w0.setRow _ vs).heap.size; simp, fun b' _ hn => setRow_other _ _ _ _ (hn hal0), fun _ => ⟨by show _ < (E.w0.setRow _ vs).heap.size; simpa using (hsat.place 0 hal0).1, .inl ⟨hal0, rfl⟩⟩, fun i hi => by simp [alive, mapH, hi, mapO_dead], by simp [mapH], fun cs e => (by cases e), fun h => absurd h hnf, fun h => absurd h hnf⟩
        · exact setRow_heap _ _ cur _ _ (0, 0) hb
      · refine (ins_grow (vc := cap2) (nv := vv.toList.take 4) hb hfit h1c (by omega) hcap.1 (by omega) (by omega) (by rw [List.length_take, Array.length_toList]; omega) (fun j u hj => ?_) (fun u hu => h1v u (List.mem_of_mem_take hu))).mono ?_
        · rw [List.getElem?_take] at hj
          split at hj
          · rw [Nat.zero_add, cell_of_row E.w0 _ _ vv Tv (0, 0) hbv]
            simpa using hj
          · cases hj
        rintro e w' ⟨G, vs, rfl, h1, h2, h3, ht, h4, q, rfl⟩
        refine ins_done hp hsat hn0 hrl hrv ht ?_ (b := E.w0.heap.size) (T' := 43) ?_ h4 ⟨h1, h2⟩ h3 hK
        · exact ⟨rfl, rfl, rfl, by show _ ≤ (E.w0.alloc _).heap.size; simp, fun b' hb' _ => Go.heap_alloc_old _ _ hb', fun _ => ⟨by show _ < (E.w0.alloc _).heap.size; simp, .inr (Nat.le_refl _)⟩, fun i hi => by simp [alive, mapH, hi, mapO_dead], by simp [mapH], fun cs e => (by cases e), fun h => absurd h hnf, fun h => absurd h hnf⟩
        · exact Go.heap_alloc_new _ _
end Go.Proofs.Ytalbgcpfekmfoaa
