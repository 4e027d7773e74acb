/-
The program's walk over a leader's past in plain Lean: what is put into the queue.
No conditions.
-/
import Derived.Test.YtkabnbjlglippaaGreatDoorPlB
import Derived.Test.YtkabnbjlglippaaGreatDoorHeX
import Derived.Test.YtkabnbjlglippaaGreatDoorWjF
namespace Go.Proofs.YtkabnbjlglippaaGreatDoor
open Go Go.Vc
variable {g : List VxD} {L : List Int} {W : List Nat}
/-- What the first n waves have ordered is marked. -/
structure DnO (g : List VxD) (L : List Int) (W : List Nat) (n : Nat) (d : List Bool) : Prop where
  len : d.length = g.length
  iff : ∀ (j : Nat) x, d[j]? = some x → (x = true ↔ ∃ y ∈ W.take n, selV g L y j = true)
/-- While the past of the n-th leader is looked at: the first k of it. -/
structure DnI (g : List VxD) (L : List Int) (W : List Nat) (n w : Nat) (P : List Nat) (k : Nat) (d : List Bool) (q : List Nat) : Prop where
  len : d.length = g.length
  iff : ∀ (j : Nat) x, d[j]? = some x → (x = true ↔ (∃ y ∈ W.take n, selV g L y j = true) ∨ (j ∈ P.take k ∧ 2 * (w : Int) - 7 ≤ (gAt g j).r))
  new : ∀ j, j ∈ q ↔ j ∈ P.take k ∧ 2 * (w : Int) - 7 ≤ (gAt g j).r ∧ ¬ ∃ y ∈ W.take n, selV g L y j = true
  asc : q.Pairwise (· < ·)
theorem dni_start {n w : Nat} {P : List Nat} {d : List Bool} (h : DnO g L W n d) : DnI g L W n w P 0 d [] :=
  ⟨h.len, fun j x hx => by rw [h.iff j x hx]; simp, fun j => by simp, .nil⟩
theorem dni_lt {n w k j : Nat} {P : List Nat} {d : List Bool} {q : List Nat} (h : DnI g L W n w P k d q) (hP : P.Pairwise (· < ·)) (hj : P[k]? = some j) : ∀ x ∈ q, x < j := by
  intro x hx
  obtain ⟨i, hi⟩ := List.mem_iff_getElem?.1 ((h.new x).1 hx).1
  rw [List.getElem?_take] at hi
  split at hi
  · rename_i hik
    obtain ⟨h1, rfl⟩ := List.getElem?_eq_some_iff.1 hi
    obtain ⟨h2, rfl⟩ := List.getElem?_eq_some_iff.1 hj
    exact List.pairwise_iff_getElem.1 hP i k h1 h2 hik
  · cases hi
theorem dni_fresh {k j : Nat} {P : List Nat} (hP : P.Pairwise (· < ·)) (hj : P[k]? = some j) : j ∉ P.take k := by
  intro hm
  obtain ⟨i, hi⟩ := List.mem_iff_getElem?.1 hm
  rw [List.getElem?_take] at hi
  split at hi
  · rename_i hik
    obtain ⟨h1, e1⟩ := List.getElem?_eq_some_iff.1 hi
    obtain ⟨h2, e2⟩ := List.getElem?_eq_some_iff.1 hj
    have := List.pairwise_iff_getElem.1 hP i k h1 h2 hik
    omega
  · cases hi
theorem dni_mem {k j x : Nat} {P : List Nat} (hj : P[k]? = some j) : x ∈ P.take (k + 1) ↔ x ∈ P.take k ∨ x = j := by
  rw [List.take_add_one, hj]
  simp
theorem dni_take {n w k j : Nat} {P : List Nat} {d : List Bool} {q : List Nat} (h : DnI g L W n w P k d q) (hP : P.Pairwise (· < ·)) (hj : P[k]? = some j) (hd : d[j]? = some false) (hr : 2 * (w : Int) - 7 ≤ (gAt g j).r) : DnI g L W n w P (k + 1) (d.set j true) (q ++ [j]) := by
  have hno : ¬ ∃ y ∈ W.take n, selV g L y j = true := fun hy => by
    have := (h.iff j false hd).2 (.inl hy)
    cases this
  refine ⟨by rw [List.length_set]; exact h.len, fun i x hx => ?_, fun i => ?_, List.pairwise_append.2 ⟨h.asc, by simp, fun a ha b hb => by rw [List.mem_singleton.1 hb]; exact dni_lt h hP hj a ha⟩⟩
  · rw [dni_mem hj]
    rw [List.getElem?_set] at hx
    split at hx
    · rename_i e
      subst e
      split at hx
      · cases hx
        simp [hr]
      · cases hx
    · rename_i e
      rw [h.iff i x hx]
      have e2 : ¬ i = j := fun q => e q.symm
      simp [e2]
  · rw [List.mem_append, List.mem_singleton, h.new i, dni_mem hj]
    constructor
    · rintro (⟨h1, h2, h3⟩ | rfl)
      · exact ⟨.inl h1, h2, h3⟩
      · exact ⟨.inr rfl, hr, hno⟩
    · rintro ⟨h1 | h1, h2, h3⟩
      · exact .inl ⟨h1, h2, h3⟩
      · exact .inr h1
theorem dni_skip {n w k j : Nat} {P : List Nat} {d : List Bool} {q : List Nat} {x : Bool} (h : DnI g L W n w P k d q) (hP : P.Pairwise (· < ·)) (hj : P[k]? = some j) (hd : d[j]? = some x) (hs : x = true ∨ ¬ 2 * (w : Int) - 7 ≤ (gAt g j).r) : DnI g L W n w P (k + 1) d q := by
  have hfr := dni_fresh hP hj
  have hdone : x = true → ∃ y ∈ W.take n, selV g L y j = true := fun e => by
    rcases (h.iff j x hd).1 e with h1 | h1
    · exact h1
    · exact absurd h1.1 hfr
  refine ⟨h.len, fun i y hy => ?_, fun i => ?_, h.asc⟩
  · rw [h.iff i y hy, dni_mem hj]
    constructor
    · rintro (h1 | h1)
      · exact .inl h1
      · exact .inr ⟨.inl h1.1, h1.2⟩
    · rintro (h1 | ⟨h1 | rfl, h2⟩)
      · exact .inl h1
      · exact .inr ⟨h1, h2⟩
      · rcases hs with hs | hs
        · exact .inl (hdone hs)
        · exact absurd h2 hs
  · rw [h.new i, dni_mem hj]
    constructor
    · rintro ⟨h1, h2, h3⟩
      exact ⟨.inl h1, h2, h3⟩
    · rintro ⟨h1 | rfl, h2, h3⟩
      · exact ⟨h1, h2, h3⟩
      · rcases hs with hs | hs
        · exact absurd (hdone hs) h3
        · exact absurd h2 hs
theorem asc_same : ∀ {a b : List Nat}, a.Pairwise (· < ·) → b.Pairwise (· < ·) → (∀ x, x ∈ a ↔ x ∈ b) → a = b := by
  intro a b ha hb h
  have nd : ∀ {l : List Nat}, l.Pairwise (· < ·) → l.Nodup := fun {l} hl => hl.imp fun {a b} hab e => by omega
  exact List.Perm.eq_of_pairwise (le := (· < ·)) (fun a b _ _ h1 h2 => by omega) ha hb ((List.perm_ext_iff_of_nodup (nd ha) (nd hb)).2 h)
theorem take_lt (hp : W.Pairwise (· < ·)) {n w : Nat} (hn : W[n]? = some w) {y : Nat} : y ∈ W.take n ↔ y ∈ W ∧ y < w := by
  obtain ⟨h2, e2⟩ := List.getElem?_eq_some_iff.1 hn
  constructor
  · intro hy
    obtain ⟨i, hi⟩ := List.mem_iff_getElem?.1 hy
    rw [List.getElem?_take] at hi
    split at hi
    · rename_i hik
      obtain ⟨h1, e1⟩ := List.getElem?_eq_some_iff.1 hi
      have := List.pairwise_iff_getElem.1 hp i n h1 h2 hik
      exact ⟨List.mem_of_getElem? hi, by omega⟩
    · cases hi
  · rintro ⟨hy, hlt⟩
    obtain ⟨i, hi⟩ := List.mem_iff_getElem?.1 hy
    obtain ⟨h1, e1⟩ := List.getElem?_eq_some_iff.1 hi
    have hin : i < n := by
      rcases Nat.lt_trichotomy i n with h | h | h
      · exact h
      · subst h
        omega
      · have := List.pairwise_iff_getElem.1 hp n i h2 h1 h
        omega
    exact List.mem_of_getElem? (by rw [List.getElem?_take, if_pos hin]; exact hi)
theorem idxT_iff {s j : Nat} : j ∈ idxT (pastV g s) ↔ j < g.length ∧ Reach g s j := by
  unfold idxT
  rw [List.mem_filter, List.mem_range, past_len]
  constructor
  · rintro ⟨h1, h2⟩
    refine ⟨h1, ?_⟩
    have hx : (pastV g s)[j]? = some ((pastV g s)[j]'(by rw [past_len]; exact h1)) := List.getElem?_eq_getElem _
    have e : (pastV g s).getD j false = (pastV g s)[j]'(by rw [past_len]; exact h1) := by rw [List.getD_eq_getElem?_getD, hx]; rfl
    exact (past_get hx).1 (by rw [← e]; exact h2)
  · rintro ⟨h1, h2⟩
    refine ⟨h1, ?_⟩
    have hx : (pastV g s)[j]? = some ((pastV g s)[j]'(by rw [past_len]; exact h1)) := List.getElem?_eq_getElem _
    rw [List.getD_eq_getElem?_getD, hx]
    exact (past_get hx).2 h2
theorem idxT_lt {s : Nat} : (idxT (pastV g s)).Pairwise (· < ·) := List.Pairwise.filter _ List.pairwise_lt_range
theorem sel_past {w i j : Nat} (hi : leadV g L w = some i) (hj : j < g.length) : selV g L w j = true ↔ Reach g i j ∧ 2 * (w : Int) - 7 ≤ (gAt g j).r := by
  rw [sel_iff]
  constructor
  · rintro ⟨k, v, h1, h2, h3, h4⟩
    rw [hi] at h1
    cases h1
    rw [gAt_of h2]
    exact ⟨h3, h4⟩
  · rintro ⟨h1, h2⟩
    exact ⟨i, _, hi, gAt_get hj, h1, h2⟩
/-- The whole past looked at: what is new is what the wave orders. -/
theorem dni_end (hp : W.Pairwise (· < ·)) {n w i : Nat} {d : List Bool} {q : List Nat} (hn : W[n]? = some w) (h0 : 0 < w) (hi : leadV g L w = some i) {k : Nat} (hk : (idxT (pastV g i)).length ≤ k) (h : DnI g L W n w (idxT (pastV g i)) k d q) : q = blkW g L W w ∧ DnO g L W (n + 1) d := by
  have hall : (idxT (pastV g i)).take k = idxT (pastV g i) := List.take_of_length_le hk
  refine ⟨asc_same h.asc blk_asc fun j => ?_, h.len, fun j x hx => ?_⟩
  · rw [h.new j, hall, idxT_iff, blk_mem]
    constructor
    · rintro ⟨⟨h1, h2⟩, h3, h4⟩
      refine ⟨h1, (wv_iff hp h0).2 ⟨List.mem_of_getElem? hn, (sel_past hi h1).2 ⟨h2, h3⟩, fun y hy hlt => ?_⟩⟩
      cases e : selV g L y j with
      | false => rfl
      | true => exact absurd ⟨y, (take_lt hp hn).2 ⟨hy, hlt⟩, e⟩ h4
    · rintro ⟨h1, h2⟩
      obtain ⟨_, g2, g3⟩ := (wv_iff hp h0).1 h2
      have := (sel_past hi h1).1 g2
      refine ⟨⟨h1, this.1⟩, this.2, ?_⟩
      rintro ⟨y, hy, hs⟩
      have h5 := (take_lt hp hn).1 hy
      rw [g3 y h5.1 h5.2] at hs
      cases hs
  · have hj : j < g.length := by rw [← h.len]; exact (List.getElem?_eq_some_iff.1 hx).1
    rw [h.iff j x hx, hall, idxT_iff]
    have hm : ∀ y, y ∈ W.take (n + 1) ↔ y ∈ W.take n ∨ y = w := fun y => dni_mem hn
    constructor
    · rintro (⟨y, hy, hs⟩ | ⟨⟨_, h1⟩, h2⟩)
      · exact ⟨y, (hm y).2 (.inl hy), hs⟩
      · exact ⟨w, (hm w).2 (.inr rfl), (sel_past hi hj).2 ⟨h1, h2⟩⟩
    · rintro ⟨y, hy, hs⟩
      rcases (hm y).1 hy with hy | rfl
      · exact .inl ⟨y, hy, hs⟩
      · have := (sel_past hi hj).1 hs
        exact .inr ⟨⟨hj, this.1⟩, this.2⟩
theorem dno_start : DnO g L W 0 (List.replicate g.length false) :=
  ⟨by simp, fun j x hx => by
    rw [List.getElem?_replicate] at hx
    split at hx
    · cases hx
      simp
    · cases hx⟩
/-- The order as the program lays it out. -/
noncomputable def ordR (g : List VxD) (L : List Int) (W W' : List Nat) : List (List AV) := W'.flatMap fun w => (blkX g L W w).map (oRow w)
theorem ordR_snoc {n w : Nat} (hn : W[n]? = some w) : ordR g L W (W.take (n + 1)) = ordR g L W (W.take n) ++ (blkX g L W w).map (oRow w) := by
  unfold ordR
  rw [List.take_add_one, hn, List.flatMap_append]
  simp
theorem blkX_len {w : Nat} : (blkX g L W w).length ≤ g.length := by
  unfold blkX blkW
  rw [List.length_map]
  have := List.length_filter_le (fun k => wvV g L W k == w) (List.range g.length)
  simpa using this
theorem ordR_len : ∀ {W' : List Nat}, (ordR g L W W').length ≤ W'.length * g.length
  | [] => by simp [ordR]
  | w :: W' => by
    have ih := ordR_len (W' := W')
    have h1 := blkX_len (g := g) (L := L) (W := W) (w := w)
    unfold ordR at ih ⊢
    rw [List.flatMap_cons, List.length_append, List.length_map, List.length_cons, Nat.add_mul, Nat.one_mul]
    omega
end Go.Proofs.YtkabnbjlglippaaGreatDoor
