/-
Read-only callees as calls in worlds that grew; a row of votes handed back.
No conditions.
-/
import Derived.Test.YtalbgcpfekmfoaaVpU
import Derived.Test.YtalbgcpfekmfoaaVpE
import Derived.Test.YtalbgcpfekmfoaaVpD
namespace Go.Proofs.Ytalbgcpfekmfoaa
open Go Go.Vc Go.RowKit
set_option maxHeartbeats 1000000
set_option maxRecDepth 100000
theorem keeps_below {E : Entry} {Fs : List Fam} {w' : World} (h : SatW E (listH []) Fs E.w0 E.ρ0 E.A0) (hb : Below E.w0.heap.size E.w0 w') : Vc.Keeps (ctxOf E (listH []) E.w0 E.ρ0 E.A0) (ctxOf E (listH []) w' E.ρ0 E.A0) := by
  refine ⟨fun b hb' => ?_, fun b hb' => ?_, fun b hb' => hb', fun b hb' => ?_, ⟨Nat.le_refl _, fun _ _ => rfl⟩⟩
  · rcases hb' with hb' | ⟨h1, h2, _⟩
    · exact .inl hb'
    · exact absurd h2 (by omega)
  · exact hb.block b (h.ok_lt hb')
  · exact hb.block b (h.zB b hb').1
theorem satW_below {E : Entry} {Fs : List Fam} {w' : World} (h : SatW E (listH []) Fs E.w0 E.ρ0 E.A0) (hb : Below E.w0.heap.size E.w0 w') : SatW E (listH []) Fs w' E.ρ0 E.A0 := by
  have hd : ∀ k, listH [] k = .dead := fun k => rfl
  have kp := keeps_below h hb
  exact { os := hb.os, tape := hb.tape, output := hb.output, size := hb.size, frame := fun b hb' _ => hb.block b hb', okB := h.okB, zB := h.zB,
          place := fun k hk => absurd (hd k) hk, inj := fun k _ hk => absurd (hd k) hk, stay := h.stay, fix := fun _ k _ ha => absurd (hd k) ha, grow := fun _ k _ vs T fr h0 => ⟨vs, T, fr, (hb.block _ (Array.getElem?_eq_some_iff.1 h0).1).trans h0, Nat.le_refl _⟩, pins := fun p hp => ⟨(h.pins p hp).1, (hb.block _ (h.okB _ (h.pins p hp).1).1).trans (h.pins p hp).2⟩, obj := fun k => by rw [hd k]; trivial, fl := h.fl, nf := h.nf, A0 := h.A0,
          fam := fun f fam hf => RepFam.move kp (by rw [← h.fl]; exact (List.getElem?_eq_some_iff.1 hf).1) (h.fam f fam hf) }
theorem ret_below {E : Entry} {con : Con} {Fs : List Fam} {K : AV → List AO → List Fam → Prop} {r : AV} {v : Value} {e : Ending} {w' : World} (h : SatW E (listH []) Fs E.w0 E.ρ0 E.A0) (hn : E.n0 = 0) (he : e = .returned v) (hb : Below E.w0.heap.size E.w0 w') (hr : RepV (ctxOf E (listH []) w' E.ρ0 E.A0) r v) (hf : roFree r = true) (hK : K r [] []) : Ret E con Fs K e w' := by
  refine ⟨v, r, [], [], E.ρ0, E.A0, he, hK, ?_, hr, by omega, Nat.zero_le _, fun _ => ⟨⟨hf, by simp⟩, rfl⟩⟩
  rw [List.append_nil]
  exact satW_below h hb
/-- A callee that only reads, in a world that grew. -/
theorem ro_calls {E : Entry} {Fs : List Fam} {f : FuncId} {con : Con} (hk : Keeps' Try.prog f con) (hsat : SatW E (listH []) Fs E.w0 E.ρ0 E.A0) (aargs : List AV) (args : List Value) {K : AV → List AO → List Fam → Prop} (hC : con.C aargs [] Fs K) (hlen : args.length = aargs.length)
    (hrep : ∀ (i : Nat) a v, aargs[i]? = some a → args[i]? = some v → RepV (ctxOf E (listH []) E.w0 E.ρ0 E.A0) a v ∧ pureA a = true) {w : World} (hb : Below E.w0.heap.size E.w0 w) :
    Calls Try.prog f args.toArray w (Ret (calleeE E ⟨fun _ => .any, listH [], Fs⟩ w E.ρ0 E.A0 [] [] false) con Fs K) := by
  have hs := satW_below hsat hb
  have kp := keeps_below hsat hb
  have hs2 := callee_sat (S := ⟨fun _ => .any, listH [], Fs⟩) (ρc := []) (vs := []) (fx := false) hs (by simp) (by simp) (by simp)
  have kp2 := callee_keeps (E := E) (S := ⟨fun _ => .any, listH [], Fs⟩) (w := w) (ρ := E.ρ0) (A := E.A0) (ρc := []) (vs := []) (fx := false)
  refine hk (calleeE E ⟨fun _ => .any, listH [], Fs⟩ w E.ρ0 E.A0 [] [] false) args aargs [] Fs K hC hlen rfl hs2 (fun i a v ha hv => ?_) (fun h => by cases h)
  obtain ⟨h1, h2⟩ := hrep i a v ha hv
  exact (h1.pure_move kp h2).pure_move kp2 h2
theorem ro_below {E : Entry} {Fs : List Fam} {con : Con} {K : AV → List AO → List Fam → Prop} {w w' : World} {e : Ending} (h : Ret (calleeE E ⟨fun _ => .any, listH [], Fs⟩ w E.ρ0 E.A0 [] [] false) con Fs K e w') : Below w.heap.size w w' := by
  obtain ⟨v, r, hs, nF, ρ, A, -, -, hsat', -⟩ := h
  exact ⟨hsat'.os, hsat'.tape, hsat'.output, hsat'.size, fun b hb' => hsat'.frame b hb' fun i hi => absurd hi (by simp [calleeE])⟩
/-- The answer that is a given value. -/
theorem ro_val {E : Entry} {Fs : List Fam} {f : FuncId} {con : Con} (hk : Keeps' Try.prog f con) (hsat : SatW E (listH []) Fs E.w0 E.ρ0 E.A0) (aargs : List AV) (args : List Value) {x : Value} (hC : con.C aargs [] Fs fun q _ _ => q = .val x) (hlen : args.length = aargs.length)
    (hrep : ∀ (i : Nat) a v, aargs[i]? = some a → args[i]? = some v → RepV (ctxOf E (listH []) E.w0 E.ρ0 E.A0) a v ∧ pureA a = true) {w : World} (hb : Below E.w0.heap.size E.w0 w) :
    Calls Try.prog f args.toArray w fun e w' => e = .returned x ∧ Below w.heap.size w w' := by
  refine (ro_calls hk hsat aargs args hC hlen hrep hb).mono ?_
  intro e w' h
  have hb2 := ro_below h
  obtain ⟨v, r, hs, nF, ρ, A, rfl, rfl, hsat', hr, -⟩ := h
  cases hr
  exact ⟨rfl, hb2⟩
/-- A voter handed back with its votes in a row of their own. -/
structure OutV (B : Nat) (f : Int) (l : List VtD) (v : Value) (w' : World) : Prop where
  out : ∃ g cap xs T, v = .agg #[.int .i64 f, .slice (some ⟨g, 0, none⟩) l.length cap] ∧ l.length ≤ cap ∧ cap ≤ 9223372036854775807 ∧ B ≤ g ∧ w'.heap[g]? = some (.cells xs T (0, 0)) ∧ cap * 3 ≤ xs.size ∧ (∀ v ∈ xs.toList, v.oneCell' = true) ∧ ∀ (i : Nat) u, l[i]? = some u → xs[i * 3]? = some (.int .i64 u.r) ∧ xs[i * 3 + 1]? = some (.int .i64 u.a) ∧ xs[i * 3 + 2]? = some (.int .i64 u.d)
theorem row_get {l : List VtD} {i : Nat} {u : VtD} (h : l[i]? = some u) : (l.map VtD.row)[i]? = some [I u.r, I u.a, I u.d] := by
  rw [List.getElem?_map, h]; rfl
theorem repv_int {c : Ctx} {z : Int} {v : Value} (h : RepV c (I z) v) : v = .int .i64 z := by cases h; rfl
theorem clone_calls {E : Entry} {Fs : List Fam} (hsat : SatW E (listH []) Fs E.w0 E.ρ0 E.A0) {f : Int} {l : List VtD} (hl : l.length ≤ 1000) {v : Value} (hr : RepV (ctxOf E (listH []) E.w0 E.ρ0 E.A0) (.agg [I f, .sl 3 (l.map VtD.row)]) v) {w : World} (hb : Below E.w0.heap.size E.w0 w) :
    Calls Try.prog 28 #[v] w fun e w' => ∃ x, e = .returned x ∧ OutV w.heap.size f l x w' ∧ Below w.heap.size w w' := by
  refine (ro_calls k_impl_cloneVoter hsat [.agg [I f, .sl 3 (l.map VtD.row)]] [v] (K := fun q hs _ => q = .agg [I f, .own 0] ∧ hs = [.arr 3 (l.map VtD.row)]) ⟨rfl, l, rfl, hl, rfl, rfl⟩ rfl (fun i a u ha hu => ?_) hb).mono ?_
  · match i, ha, hu with
    | 0, ha, hu => cases ha; cases hu; exact ⟨hr, rfl⟩
    | i + 1, ha, hu => simp at ha
  · intro e w' h
    have hb2 := ro_below h
    obtain ⟨x, r, hs, nF, ρ, A, rfl, ⟨rfl, rfl⟩, hsat', hrx, -⟩ := h
    refine ⟨x, rfl, ?_, hb2⟩
    cases hrx with
    | agg cs vs hl2 h1 hh =>
      obtain ⟨a0, a1, rfl⟩ : ∃ a0 a1, vs = [a0, a1] := by
        rcases vs with _ | ⟨a0, _ | ⟨a1, _ | ⟨a2, t⟩⟩⟩ <;> simp at hl2
        exact ⟨a0, a1, rfl⟩
      have e0 := hh 0 _ a0 rfl rfl
      have e1 := hh 1 _ a1 rfl rfl
      cases e0
      cases e1 with
      | own k sz n cap hk hcap hroom =>
        have ho := hsat'.obj 0
        obtain ⟨xs, T, q1, q2, q3, q4, q5⟩ := ho
        have hp := hsat'.place 0 (by simp [alive, listH])
        have hk2 : some (3, (l.map VtD.row).length) = some (sz, n) := hk
        simp only [List.length_map, Option.some.injEq, Prod.mk.injEq] at hk2
        obtain ⟨rfl, rfl⟩ := hk2
        obtain ⟨vs2, T2, fr2, p1, p2⟩ := hroom
        have q1 : w'.heap[ρ 0]? = some (.cells xs T (0, 0)) := q1
        have p1 : w'.heap[ρ 0]? = some (.cells vs2 T2 fr2) := p1
        rw [q1] at p1
        cases p1
        have hp2 : w.heap.size ≤ ρ 0 := by
          rcases hp.2 with h2 | h2
          · exact h2
          · exact absurd h2.1 (by simp [calleeE])
        refine ⟨⟨ρ 0, cap, xs, T, rfl, hcap.1, hcap.2, hp2, q1, p2, q3, fun i u hu => ?_⟩⟩
        have hi := (List.getElem?_eq_some_iff.1 hu).1
        have g0 := row_get hu
        have z : ∀ j a, [I u.r, I u.a, I u.d][j]? = some a → ∃ y, xs[i * 3 + j]? = some y ∧ RepV (ctxOf (calleeE E ⟨fun _ => .any, listH [], Fs⟩ w E.ρ0 E.A0 [] [] false) (listH [.arr 3 (l.map VtD.row)]) w' ρ A) a y := fun j a ha => by
          have hj : j < 3 := by simpa using (List.getElem?_eq_some_iff.1 ha).1
          have hlt : i * 3 + j < xs.size := by omega
          exact ⟨xs[i * 3 + j], Array.getElem?_eq_getElem hlt, (q5 i _ j a _ g0 ha (Array.getElem?_eq_getElem hlt)).1⟩
        obtain ⟨y0, z0, t0⟩ := z 0 _ rfl
        obtain ⟨y1, z1, t1⟩ := z 1 _ rfl
        obtain ⟨y2, z2, t2⟩ := z 2 _ rfl
        cases t0
        cases t1
        cases t2
        exact ⟨z0, z1, z2⟩
/-- A row of votes that is only read: where it lies. -/
theorem sl_cells {c : Ctx} {l : List VtD} {v : Value} (h : RepV c (.sl 3 (l.map VtD.row)) v) : (l = [] ∧ ∃ ad cap, v = .slice ad 0 cap) ∨ ∃ b off cap, v = .slice (some ⟨b, off, none⟩) l.length cap ∧ c.ok b ∧ ∀ (i : Nat) u, l[i]? = some u → c.w.cell? ⟨b, off + i * 3, none⟩ = some (.int .i64 u.r) ∧ c.w.cell? ⟨b, off + i * 3 + 1, none⟩ = some (.int .i64 u.a) ∧ c.w.cell? ⟨b, off + i * 3 + 2, none⟩ = some (.int .i64 u.d) := by
  generalize hR : l.map VtD.row = R at h
  cases h with
  | sl0 sz a cap =>
    refine .inl ⟨by simpa using hR, _, _, rfl⟩
  | sl sz R b off cap vf hok hcap hl hc hh =>
    subst hR
    refine .inr ⟨b, off, cap, by rw [List.length_map], hok, fun i u hu => ?_⟩
    have g0 := row_get hu
    have t0 := hh i _ 0 _ g0 rfl
    have t1 := hh i _ 1 _ g0 rfl
    have t2 := hh i _ 2 _ g0 rfl
    have z0 := (hc i _ 0 _ g0 rfl).1
    have z1 := (hc i _ 1 _ g0 rfl).1
    have z2 := (hc i _ 2 _ g0 rfl).1
    rw [repv_int t0] at z0
    rw [repv_int t1] at z1
    rw [repv_int t2] at z2
    exact ⟨z0, z1, z2⟩
/-- The end of a function that hands a voter back with a flag. -/
theorem ret_row {E : Entry} {con : Con} {Fs : List Fam} {K : AV → List AO → List Fam → Prop} (hnew : 1 ≤ con.nnew) (h : SatW E (listH []) Fs E.w0 E.ρ0 E.A0) (hn : E.n0 = 0) {f : Int} {l : List VtD} {x : Value} {bb : Bool} {e : Ending} {w' : World} (he : e = .returned (.tuple #[x, .bool bb])) (hb : Below E.w0.heap.size E.w0 w') (ho : OutV E.w0.heap.size f l x w')
    (hK : K (.tup [.agg [I f, .own 0], B bb]) [.arr 3 (l.map VtD.row)] []) : Ret E con Fs K e w' := by
  obtain ⟨g, cap, xs, T, rfl, hc1, hc2, hg, hgo, hsz, h1, hcell⟩ := ho.out
  have hgl : g < w'.heap.size := (Array.getElem?_eq_some_iff.1 hgo).1
  have hd : ∀ k, k ≠ 0 → listH [AO.arr 3 (l.map VtD.row)] k = .dead := fun k hk => by
    cases k with
    | zero => exact absurd rfl hk
    | succ k => rfl
  have kp : Vc.Keeps (ctxOf E (listH []) E.w0 E.ρ0 E.A0) (ctxOf E (listH [AO.arr 3 (l.map VtD.row)]) w' (fun _ => g) E.A0) := by
    refine ⟨fun b hb' => ?_, fun b hb' => ?_, fun b hb' => hb', fun b hb' => ?_, ⟨Nat.le_refl _, fun _ _ => rfl⟩⟩
    · rcases hb' with hb' | ⟨h1, h2, _⟩
      · exact .inl hb'
      · exact absurd h2 (by omega)
    · exact hb.block b (h.ok_lt hb')
    · exact hb.block b (h.zB b hb').1
  have hdead : ∀ k, alive (listH [AO.arr 3 (l.map VtD.row)]) k → k = 0 := fun k hk => by
    refine Classical.byContradiction fun hne => hk (hd k hne)
  have hs : SatW E (listH [AO.arr 3 (l.map VtD.row)]) Fs w' (fun _ => g) E.A0 :=
    { os := hb.os, tape := hb.tape, output := hb.output, size := hb.size, frame := fun b hb' _ => hb.block b hb', okB := h.okB, zB := h.zB,
      place := fun k hk => ⟨hgl, .inl hg⟩, inj := fun k k' hk hk' _ => (hdead k hk).trans (hdead k' hk').symm, stay := fun k cs hk => absurd hk (by omega), fix := fun _ k hk => absurd hk (by omega), grow := fun _ k hk => absurd hk (by omega),
      pins := fun p hp => ⟨(h.pins p hp).1, (hb.block _ (h.okB _ (h.pins p hp).1).1).trans (h.pins p hp).2⟩,
      obj := fun k => by
        cases k with
        | succ k => exact trivial
        | zero =>
          refine ⟨xs, T, hgo, by rw [List.length_map]; omega, h1, fun i r hr => ?_, fun i r j a v hr ha hv => ?_⟩
          · rw [List.getElem?_map] at hr
            obtain ⟨u, _, rfl⟩ := Option.map_eq_some_iff.1 hr
            rfl
          · rw [List.getElem?_map] at hr
            obtain ⟨u, hu, rfl⟩ := Option.map_eq_some_iff.1 hr
            obtain ⟨c0, c1, c2⟩ := hcell i u hu
            match j, ha, hv with
            | 0, ha, hv => cases ha; rw [← Option.some.inj (c0.symm.trans hv)]; exact ⟨.val _, rfl⟩
            | 1, ha, hv => cases ha; rw [← Option.some.inj (c1.symm.trans hv)]; exact ⟨.val _, rfl⟩
            | 2, ha, hv => cases ha; rw [← Option.some.inj (c2.symm.trans hv)]; exact ⟨.val _, rfl⟩
            | j + 3, ha, hv => simp [VtD.row] at ha
      fl := h.fl, nf := h.nf, A0 := h.A0,
      fam := fun f fam hf => RepFam.move kp (by rw [← h.fl]; exact (List.getElem?_eq_some_iff.1 hf).1) (h.fam f fam hf) }
  refine ⟨_, _, [AO.arr 3 (l.map VtD.row)], [], _, _, he, hK, by rw [List.append_nil]; exact hs, ?_, by omega, by simp; omega, fun _ => ⟨⟨rfl, ?_⟩, rfl⟩⟩
  · refine .tup [.agg [I f, .own 0], B bb] [_, _] rfl (by simp) fun i a v ha hv => ?_
    match i, ha, hv with
    | 0, ha, hv =>
      cases ha
      cases hv
      refine .agg [I f, .own 0] [_, _] rfl (by simp [Value.oneCell']) fun i a v ha hv => ?_
      match i, ha, hv with
      | 0, ha, hv => cases ha; cases hv; exact .val _
      | 1, ha, hv =>
        cases ha
        cases hv
        exact .own 0 3 l.length cap (by show (AO.arr 3 (l.map VtD.row)).info = _; simp [AO.info]) ⟨hc1, hc2⟩ ⟨xs, T, _, hgo, hsz⟩
      | i + 2, ha, hv => simp at ha
    | 1, ha, hv => cases ha; cases hv; exact .val _
    | i + 2, ha, hv => simp at ha
  · simp [roFreeO, VtD.row, roFreeC]
end Go.Proofs.Ytalbgcpfekmfoaa
