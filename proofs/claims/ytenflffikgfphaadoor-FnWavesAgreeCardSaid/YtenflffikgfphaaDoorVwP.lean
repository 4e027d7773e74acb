/-
Readers that know a part of a graph, in plain Lean: what they commit.
No conditions.
-/
import Derived.Test.YtenflffikgfphaaDoorQrP
import Derived.Test.YtenflffikgfphaaDoorWvP
namespace Go.Proofs.YtenflffikgfphaaDoor
open Go Go.Vc
/-- A part of a graph that holds the parents of what it holds. -/
structure Sub (g' g : List VxD) : Prop where
  mem : ∀ v ∈ g', v ∈ g
  srt : sortedV g'
  clo : ∀ v ∈ g', ∀ x ∈ v.p, ∃ j, findV g' (v.r - 1) x = some j
theorem sub_self {c : List Int} {g : List VxD} (h : Gok c g) : Sub g g := ⟨fun _ h => h, h.srt, fun v hv => (h.par v hv).2.2⟩
theorem sub_find {g' g : List VxD} (hg : sortedV g) (h : Sub g' g) {r a : Int} {i : Nat} (hi : findV g' r a = some i) : ∃ j v, findV g r a = some j ∧ g'[i]? = some v ∧ g[j]? = some v := by
  obtain ⟨v, hv, rfl, rfl⟩ := find_out hi
  obtain ⟨j, hj⟩ := List.mem_iff_getElem?.1 (h.mem v (List.mem_of_getElem? hv))
  exact ⟨j, v, find_at hg hj, hv, hj⟩
theorem sub_up {g' g : List VxD} (hg : sortedV g) (h : Sub g' g) {i' j' i : Nat} {v : VxD} (hr : Reach g' i' j') (hv' : g'[i']? = some v) (hv : g[i]? = some v) : ∃ j u, g'[j']? = some u ∧ g[j]? = some u ∧ Reach g i j := by
  induction hr with
  | refl => exact ⟨i, v, hv', hv, .refl⟩
  | step _ hj ih =>
    obtain ⟨m, w, h1, h2, h3⟩ := ih
    unfold parI at hj
    rw [h1] at hj
    obtain ⟨a, ha, hf⟩ := List.mem_filterMap.1 hj
    obtain ⟨j, u, e1, e2, e3⟩ := sub_find hg h hf
    exact ⟨j, u, e2, e3, .step h3 (par_mem h2 ha e1)⟩
theorem sub_down {g' g : List VxD} (hg : sortedV g) (h : Sub g' g) {i' i j : Nat} {v : VxD} (hr : Reach g i j) (hv' : g'[i']? = some v) (hv : g[i]? = some v) : ∃ j' u, g'[j']? = some u ∧ g[j]? = some u ∧ Reach g' i' j' := by
  induction hr with
  | refl => exact ⟨i', v, hv', hv, .refl⟩
  | step _ hj ih =>
    obtain ⟨m', w, h1, h2, h3⟩ := ih
    unfold parI at hj
    rw [h2] at hj
    obtain ⟨a, ha, hf⟩ := List.mem_filterMap.1 hj
    obtain ⟨j', hf'⟩ := h.clo w (List.mem_of_getElem? h1) a ha
    obtain ⟨j, u, e1, e2, e3⟩ := sub_find hg h hf'
    rw [hf] at e1
    cases e1
    exact ⟨j', u, e2, e3, .step h3 (par_mem h1 ha hf')⟩
theorem wsum_mono : ∀ {c : List Int} {S S' : Nat → Bool}, (∀ x ∈ c, 0 ≤ x) → (∀ i, S i = true → S' i = true) → wsum c S ≤ wsum c S'
  | [], _, _, _, _ => Int.le_refl _
  | x :: c, S, S', h0, h => by
    have h1 := wsum_mono (c := c) (S := fun i => S (i + 1)) (S' := fun i => S' (i + 1)) (fun y hy => h0 y (by simp [hy])) fun i => h (i + 1)
    have h2 := h 0
    have h3 := h0 x (by simp)
    unfold wsum
    cases e1 : S 0 <;> cases e2 : S' 0 <;> simp [e1, e2] at h2 ⊢ <;> omega
/-- The index of the leader's vertex of a wave. -/
def leadV (g : List VxD) (L : List Int) (w : Nat) : Option Nat := if w = 0 then none else match L[w - 1]? with
  | some l => findV g (2 * w - 1) l
  | none => none
def hasV (g : List VxD) (L : List Int) (w : Nat) : Bool := (leadV g L w).isSome
noncomputable def linkV (g : List VxD) (L : List Int) (z w : Nat) : Bool := by
  classical
  exact match leadV g L z, leadV g L w with
  | some i, some j => decide (Reach g i j)
  | _, _ => false
def dirV (c : List Int) (g : List VxD) (L : List Int) (w : Nat) : Bool := hasV g L w && decide (c.sum / 3 + 1 ≤ wsum c (votersV g (2 * w) (L.getD (w - 1) 0)))
theorem lead_out {g : List VxD} {L : List Int} {w i : Nat} (h : leadV g L w = some i) : 0 < w ∧ L[w - 1]? = some (L.getD (w - 1) 0) ∧ findV g (2 * w - 1) (L.getD (w - 1) 0) = some i := by
  unfold leadV at h
  split at h
  · cases h
  · rename_i h0
    split at h
    · rename_i l hl
      have e : L.getD (w - 1) 0 = l := by rw [List.getD_eq_getElem?_getD, hl]; rfl
      rw [e]
      exact ⟨by omega, hl, h⟩
    · cases h
theorem lead_in {g : List VxD} {L : List Int} {w i : Nat} {l : Int} (h0 : 0 < w) (hl : L[w - 1]? = some l) (h : findV g (2 * w - 1) l = some i) : leadV g L w = some i := by
  unfold leadV
  rw [if_neg (by omega), hl]
  exact h
theorem has_lead {g : List VxD} {L : List Int} {w : Nat} (h : hasV g L w = true) : ∃ i, leadV g L w = some i := Option.isSome_iff_exists.1 h
theorem link_out {g : List VxD} {L : List Int} {z w : Nat} (h : linkV g L z w = true) : ∃ i j, leadV g L z = some i ∧ leadV g L w = some j ∧ Reach g i j := by
  unfold linkV at h
  split at h
  · rename_i i j e1 e2
    exact ⟨i, j, e1, e2, by simpa using h⟩
  · cases h
theorem link_in {g : List VxD} {L : List Int} {z w i j : Nat} (h1 : leadV g L z = some i) (h2 : leadV g L w = some j) (h : Reach g i j) : linkV g L z w = true := by
  unfold linkV
  rw [h1, h2]
  simpa using h
theorem dir_has {c : List Int} {g : List VxD} {L : List Int} (w : Nat) (h : dirV c g L w = true) : hasV g L w = true := by
  unfold dirV at h
  rw [Bool.and_eq_true] at h
  exact h.1
/-- What is committed directly is in the past of all later leaders. -/
theorem dir_link {c : List Int} {g : List VxD} {L : List Int} (hg : Gok c g) (w z : Nat) (hd : dirV c g L w = true) (hz : w < z) (hh : hasV g L z = true) : linkV g L z w = true := by
  unfold dirV at hd
  rw [Bool.and_eq_true] at hd
  obtain ⟨k, hk⟩ := has_lead hd.1
  obtain ⟨i, hi⟩ := has_lead hh
  obtain ⟨w0, _, hf⟩ := lead_out hk
  obtain ⟨z0, _, hf2⟩ := lead_out hi
  obtain ⟨v, hv, e1, _⟩ := find_out hf2
  exact link_in hi hk (past_of_support hg (r := 2 * w) (by omega) (of_decide_eq_true hd.2) hf (2 * z - 2 * w - 2) i v hv (by omega))
theorem sub_lead {g' g : List VxD} {L : List Int} (hg : sortedV g) (h : Sub g' g) {w i : Nat} (hi : leadV g' L w = some i) : ∃ j v, leadV g L w = some j ∧ g'[i]? = some v ∧ g[j]? = some v := by
  obtain ⟨h0, hl, hf⟩ := lead_out hi
  obtain ⟨j, v, e1, e2, e3⟩ := sub_find hg h hf
  exact ⟨j, v, lead_in h0 hl e1, e2, e3⟩
theorem sub_has {g' g : List VxD} {L : List Int} (hg : sortedV g) (h : Sub g' g) {w : Nat} (hh : hasV g' L w = true) : hasV g L w = true := by
  obtain ⟨i, hi⟩ := has_lead hh
  obtain ⟨j, _, e, _⟩ := sub_lead hg h hi
  rw [hasV, e]
  rfl
theorem sub_voters {g' g : List VxD} (hg : sortedV g) (h : Sub g' g) {r l : Int} (i : Nat) (hv : votersV g' r l i = true) : votersV g r l i = true := by
  unfold votersV at hv ⊢
  cases hf : findV g' r i with
  | none => rw [hf] at hv; cases hv
  | some j =>
    rw [hf] at hv
    obtain ⟨k, v, e1, e2, e3⟩ := sub_find hg h hf
    simp only [e2] at hv
    rw [e1]
    simp only [e3]
    exact hv
theorem sub_dir {c : List Int} {g' g : List VxD} {L : List Int} (hg : Gok c g) (h : Sub g' g) (w : Nat) (hd : dirV c g' L w = true) : dirV c g L w = true := by
  unfold dirV at hd ⊢
  rw [Bool.and_eq_true] at hd ⊢
  have := wsum_mono hg.pos (sub_voters (r := 2 * w) (l := L.getD (w - 1) 0) hg.srt h)
  have h2 := of_decide_eq_true hd.2
  exact ⟨sub_has hg.srt h hd.1, decide_eq_true (by omega)⟩
theorem sub_link {g' g : List VxD} {L : List Int} (hg : sortedV g) (h : Sub g' g) {z w : Nat} (hz : hasV g' L z = true) : linkV g' L z w = true ↔ linkV g L z w = true := by
  obtain ⟨i', hi'⟩ := has_lead hz
  obtain ⟨i, v, e1, e2, e3⟩ := sub_lead hg h hi'
  constructor
  · intro hl
    obtain ⟨a, b, h1, h2, h3⟩ := link_out hl
    rw [hi'] at h1
    cases h1
    obtain ⟨j, u, q1, q2, q3⟩ := sub_up hg h h3 e2 e3
    obtain ⟨k, u2, p1, p2, p3⟩ := sub_lead hg h h2
    rw [q1] at p2
    cases p2
    obtain ⟨_, _, f1⟩ := lead_out p1
    obtain ⟨u3, f2, f3, f4⟩ := find_out f1
    rw [p3] at f2
    cases f2
    have ej : j = k := by
      have a1 := find_at hg q2
      have a2 := find_at hg p3
      rw [a1] at a2
      exact Option.some.inj a2
    subst ej
    exact link_in e1 p1 q3
  · intro hl
    obtain ⟨a, b, h1, h2, h3⟩ := link_out hl
    rw [e1] at h1
    cases h1
    obtain ⟨j', u, q1, q2, q3⟩ := sub_down hg h h3 e2 e3
    obtain ⟨w0, hl2, hf⟩ := lead_out h2
    obtain ⟨u2, f1, f2, f3⟩ := find_out hf
    rw [q2] at f1
    cases f1
    have := find_at h.srt q1
    rw [f2, f3] at this
    exact link_in hi' (lead_in w0 hl2 this) q3
theorem link_has {g : List VxD} {L : List Int} {z w : Nat} (h : linkV g L z w = true) : hasV g L w = true := by
  obtain ⟨_, j, _, e, _⟩ := link_out h
  rw [hasV, e]
  rfl
theorem dn_congr2 {has has' : Nat → Bool} {R R' : Nat → Nat → Bool} {p : Nat → Prop} (h1 : ∀ z y, p z → (has' y && R' z y) = (has y && R z y)) (h2 : ∀ z y, p z → (has y && R z y) = true → p y) : ∀ {x cur last : Nat}, p cur → dnW has' R' cur x last = dnW has R cur x last
  | 0, _, _, _ => rfl
  | x + 1, cur, last, hp => by
    unfold dnW
    rw [h1 cur (x + 1) hp]
    split
    · rfl
    · split
      · rename_i hr
        rw [dn_congr2 h1 h2 (h2 cur _ hp hr)]
      · exact dn_congr2 h1 h2 hp
theorem sub_ch {g' g : List VxD} {L : List Int} (hg : sortedV g) (h : Sub g' g) (w : Nat) (hw : hasV g' L w = true) : chW (hasV g' L) (linkV g' L) w 0 = chW (hasV g L) (linkV g L) w 0 := by
  unfold chW
  rw [dn_congr2 (p := fun z => hasV g' L z = true) (has := hasV g L) (R := linkV g L) (fun z y hz => ?_) (fun z y hz hy => ?_) hw]
  · have e := sub_link (L := L) hg h (w := y) hz
    cases hl : linkV g' L z y with
    | true =>
      rw [e.1 hl, link_has hl, link_has (e.1 hl)]
    | false =>
      cases hl2 : linkV g L z y with
      | true => rw [e.2 hl2] at hl; cases hl
      | false => simp
  · rw [Bool.and_eq_true] at hy
    exact link_has ((sub_link (L := L) hg h hz).2 hy.2)
noncomputable def outV (c : List Int) (g : List VxD) (L : List Int) : List Nat := (cmW (hasV g L) (linkV g L) (dirV c g L) L.length).1
/-- Two readers of parts of one graph agree. -/
theorem out_agree {c : List Int} {g a b : List VxD} {L : List Int} (hg : Gok c g) (ha : Sub a g) (hb : Sub b g) : outV c a L <+: outV c b L ∨ outV c b L <+: outV c a L := by
  have kk : ∀ {g'}, Sub g' g → ∀ w z, dirV c g' L w = true → w < z → hasV g' L z = true → linkV g' L z w = true := fun {g'} h w z hd hz hh =>
    (sub_link hg.srt h hh).2 (dir_link hg w z (sub_dir hg h w hd) hz (sub_has hg.srt h hh))
  exact cm_agree (has := hasV g L) (R := linkV g L) (dir := dirV c g L) dir_has (dir_link hg) dir_has dir_has (sub_dir hg ha) (sub_dir hg hb) (sub_ch hg.srt ha) (sub_ch hg.srt hb) (kk ha) (kk hb)
end Go.Proofs.YtenflffikgfphaaDoor
