/-
A call that writes objects of the caller's where they lie, and leaves their sizes: every reference of the caller's stays good.
No conditions.
-/
import Derived.Test.YtgfpcjomgmdapaaVcCall
namespace Go.Vc
variable {P : Program} {T : TT} {E : Entry} {w w' : World} {ρ : Nat → Nat} {A A' : FA} {S : FS} {tm : Nat} {a : Act} {ρc vs : List Nat}

/-- The objects of ρc as the list has them, the others as they were. -/
def inH (ρc : List Nat) (H : Nat → AO) (hs : List AO) : Nat → AO := fun k => match ρc.idxOf? k with
  | some i => listH hs i
  | none => H k

theorem Sat.inplace (h : Sat E S tm a w ρ A) {hs : List AO} {ρ' : Nat → Nat} (hal : ∀ k ∈ ρc, alive S.H k) (h' : SatW (calleeE E S w ρ A ρc vs true) (listH hs) S.F w' ρ' A')
    (hi : ∀ i, i < ρc.length → (listH hs i).info = (S.H (ρc.getD i 0)).info ∧ (∃ n, (listH hs i).info = some n) ∧ roFreeO (listH hs i)) :
    Sat E ⟨S.env, inH ρc S.H hs, S.F⟩ tm a w' ρ A' := by
  have hsz : w.heap.size ≤ w'.heap.size := h'.size
  have hall : ∀ i, i < ρc.length → alive (listH hs) i := by
    intro i hlt e
    obtain ⟨_, ⟨n, h1⟩, _⟩ := hi i hlt
    rw [e] at h1
    cases h1
  have hρ : ∀ i, i < ρc.length → ρ' i = ρ (ρc.getD i 0) := fun i hlt => h'.fix rfl i hlt (hall i hlt)
  have hroom : ∀ i, i < ρc.length → ∀ us T fr, w.heap[ρ (ρc.getD i 0)]? = some (.cells us T fr) → ∃ us' T' fr', w'.heap[ρ (ρc.getD i 0)]? = some (.cells us' T' fr') ∧ us.size ≤ us'.size :=
    fun i hlt us T fr h0 => h'.grow rfl i hlt us T fr h0
  have hgetD : ∀ {i k}, ρc.idxOf? k = some i → i < ρc.length ∧ ρc.getD i 0 = k := by
    intro i k hq
    have hg := idxOf_some hq
    exact ⟨(List.getElem?_eq_some_iff.1 hg).1, by simp [List.getD, hg]⟩
  have hmem : ∀ {i}, i < ρc.length → ρc.getD i 0 ∈ ρc := by
    intro i hi
    have : ρc.getD i 0 = ρc[i] := by simp [List.getD, hi]
    rw [this]; exact List.getElem_mem hi
  have hframe' : ∀ b, b < w.heap.size → (∀ i, i < ρc.length → b ≠ ρ (ρc.getD i 0)) → w'.heap[b]? = w.heap[b]? := h'.frame
  have hinfo : ∀ k, (inH ρc S.H hs k).info = (S.H k).info := by
    intro k
    unfold inH
    cases hq : ρc.idxOf? k with
    | none => rfl
    | some i =>
      obtain ⟨h1, h2⟩ := hgetD hq
      have := (hi i h1).1
      rw [h2] at this
      exact this
  have hnotcell : ∀ {i k}, ρc.idxOf? k = some i → ∀ cs, S.H k ≠ .cells cs := by
    intro i k hq cs hcs
    obtain ⟨h1, h2⟩ := hgetD hq
    obtain ⟨h3, ⟨n, h4⟩, _⟩ := hi i h1
    rw [h2, hcs, h4] at h3
    simp [AO.info] at h3
  have halive : ∀ k, alive (inH ρc S.H hs) k ↔ alive S.H k := by
    intro k
    unfold alive inH
    cases hq : ρc.idxOf? k with
    | none => rfl
    | some i =>
      obtain ⟨h1, h2⟩ := hgetD hq
      have h5 := hal k (by rw [← h2]; exact hmem h1)
      constructor
      · intro _; exact h5
      · intro _; exact hall i h1
  have kp : Keeps (ctxOf E S.H w ρ A) (ctxOf E (inH ρc S.H hs) w' ρ A') := by
    refine ⟨fun b hb => ?_, fun b hb => ?_, fun b hb => hb, fun b hb => ?_, h'.nf, h'.A0⟩
    · rcases hb with hb | hb
      · exact .inl hb
      · exact .inr ⟨hb.1, by show b < w'.heap.size; omega, fun k hk => hb.2.2 k ((halive k).1 hk)⟩
    · exact hframe' b (h.ok_lt hb) fun i hi => (h.ok_ne hb (hal _ (hmem hi))).symm
    · exact hframe' b (h.z_lt hb) fun i hi => (h.z_ne hb (hal _ (hmem hi))).symm
  have hsame : ∀ k, alive S.H k → k ∉ ρc → w'.heap[ρ k]? = w.heap[ρ k]? := by
    intro k ha hk
    refine hframe' _ (h.place k ha).1 fun i hi e => ?_
    have := h.inj k _ ha (hal _ (hmem hi)) e
    subst this
    exact hk (hmem hi)
  have href : ∀ r v, isRef r = true → RepV (ctxOf E S.H w ρ A) r v → RepV (ctxOf E (inH ρc S.H hs) w' ρ A') r v := by
    intro r v hir hv
    obtain ⟨k, hk, ha⟩ := RepO.alive_of hir hv
    refine hv.ref_other hk rfl (hinfo k) (fun cs hcs => ⟨cs, ?_⟩) fun us T fr h0 => ?_
    · have hcs : S.H k = .cells cs := hcs
      show inH ρc S.H hs k = _
      unfold inH
      cases hq : ρc.idxOf? k with
      | none => exact hcs
      | some i => exact absurd hcs (hnotcell hq cs)
    · by_cases hm : k ∈ ρc
      · obtain ⟨i, hq⟩ := idxOf_mem hm
        obtain ⟨h1, h2⟩ := hgetD hq
        have := hroom i h1 us T fr (by rw [h2]; exact h0)
        rw [h2] at this
        exact this
      · exact ⟨us, T, fr, (hsame k ha hm).trans h0, Nat.le_refl _⟩
  have ggrow : E.fx = true → ∀ k, k < E.n0 → ∀ vs T fr, E.w0.heap[E.ρ0 k]? = some (.cells vs T fr) → ∃ vs' T' fr', w'.heap[E.ρ0 k]? = some (.cells vs' T' fr') ∧ vs.size ≤ vs'.size := by
    intro hfE k hk us T fr h0
    obtain ⟨us1, T1, fr1, h1, h2⟩ := h.grow hfE k hk us T fr h0
    have hlt : E.ρ0 k < w.heap.size := (Array.getElem?_eq_some_iff.1 h1).1
    by_cases hx : ∃ i, i < ρc.length ∧ E.ρ0 k = ρ (ρc.getD i 0)
    · obtain ⟨i, hi', he⟩ := hx
      obtain ⟨us2, T2, fr2, h4, h5⟩ := hroom i hi' us1 T1 fr1 (by rw [← he]; exact h1)
      exact ⟨us2, T2, fr2, by rw [he]; exact h4, Nat.le_trans h2 h5⟩
    · exact ⟨us1, T1, fr1, (hframe' _ hlt fun i hi' e => hx ⟨i, hi', e⟩).trans h1, h2⟩
  refine { os := h'.os.trans h.os, tape := h'.tape.trans h.tape, output := h'.output.trans h.output, size := Nat.le_trans h.size hsz, frame := ?_, okB := h.okB, zB := h.zB, place := ?_, inj := ?_, stay := ?_, obj := ?_, fl := h'.fl,
           nf := Nat.le_trans h.nf h'.nf, A0 := ?_, fam := ?_, env := fun t => (h.env t).stay kp href, tsize := h.tsize, defers := h.defers.move kp, fix := fun hfx k hk ha => h.fix hfx k hk ((halive k).1 ha), grow := ggrow, pins := fun p hp => ⟨(h.pins p hp).1, (kp.okw _ (.inl (h.pins p hp).1)).trans (h.pins p hp).2⟩ }
  · intro b hb hn
    rw [hframe' b (Nat.lt_of_lt_of_le hb h.size) fun i hi e => ?_]
    · exact h.frame b hb hn
    · rcases (h.place _ (hal _ (hmem hi))).2 with h1 | h1
      · omega
      · exact hn _ h1.1 (by omega)
  · intro k hk
    have ha := (halive k).1 hk
    exact ⟨Nat.lt_of_lt_of_le (h.place k ha).1 hsz, (h.place k ha).2⟩
  · intro k j hk hj hkj
    exact h.inj k j ((halive k).1 hk) ((halive j).1 hj) hkj
  · intro k cs hk hcs
    have hcs : inH ρc S.H hs k = .cells cs := hcs
    unfold inH at hcs
    cases hq : ρc.idxOf? k with
    | none => rw [hq] at hcs; exact h.stay k cs hk hcs
    | some i =>
      rw [hq] at hcs
      obtain ⟨_, ⟨n, h4⟩, _⟩ := hi i (hgetD hq).1
      have hcs : listH hs i = .cells cs := hcs
      rw [hcs] at h4
      cases h4
  · intro k
    show RepO (ctxOf E (inH ρc S.H hs) w' ρ A') k (inH ρc S.H hs k)
    unfold inH
    cases hq : ρc.idxOf? k with
    | none =>
      by_cases ha : alive S.H k
      · have := (h.obj k).move kp (fun r => r) href (k' := k) (by exact hsame k ha (List.idxOf?_eq_none_iff.1 hq))
        rw [show mapO (fun r => r) (S.H k) = S.H k from by
          cases S.H k with
          | cells cs =>
            have e : mapC (fun r => r) = id := funext (mapC_id fun _ => rfl)
            simp [mapO, e]
          | _ => rfl] at this
        exact this
      · have hd : S.H k = .dead := Classical.byContradiction ha
        show RepO _ k (S.H k)
        rw [hd]; trivial
    | some i =>
      obtain ⟨h1, h2⟩ := hgetD hq
      obtain ⟨_, ⟨n, h4⟩, h5⟩ := hi i h1
      have ho := roFreeO_rep h5 (h'.obj i)
      have kp1 : Keeps { ctxOf (calleeE E S w ρ A ρc vs true) (listH hs) w' ρ' A' with ok := fun _ => False } (ctxOf E (inH ρc S.H hs) w' ρ A') :=
        ⟨fun _ hb => hb.elim, fun _ _ => rfl, fun _ hb => hb, fun _ _ => rfl, Nat.le_refl _, fun _ _ => rfl⟩
      have hm := ho.move kp1 (fun _ => .any) (fun r v _ _ => .any v) (k' := k) (by show w'.heap[ρ k]? = w'.heap[ρ' i]?; rw [hρ i h1, h2])
      have he : mapO (fun _ => AV.any) (listH hs i) = listH hs i := by
        cases hq' : listH hs i with
        | cells cs => rw [hq'] at h4; cases h4
        | _ => rfl
      rw [he] at hm
      exact hm
  · intro f hf
    rw [← h.A0 f hf]
    exact h'.A0 f (Nat.lt_of_lt_of_le hf h.nf)
  · intro f fam hf
    exact (h.fam f fam hf).move kp (h.fam_lt hf)
end Go.Vc
