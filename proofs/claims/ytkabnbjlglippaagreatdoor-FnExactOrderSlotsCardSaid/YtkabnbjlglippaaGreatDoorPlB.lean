/-
When a graph is valid, in plain Lean, and what that gives.
Heaps of vertices in plain Lean: a vertex that sinks, the least one taken out, all taken out in order.
The order in plain Lean: what each committed wave orders, and the laws on it.
The order in plain Lean, by vertices: readers of parts of one graph; leaders one after the other.
No conditions.
-/
import Derived.Test.YtkabnbjlglippaaGreatDoorCkA
import Derived.Test.YtkabnbjlglippaaGreatDoorPlA
namespace Go.Proofs.YtkabnbjlglippaaGreatDoor
open Go Go.Vc
theorem inR_out {a b c : Int} (h : inR a b c = true) : b ≤ a ∧ a ≤ c := by
  simpa [inR] using h
theorem inR_no {a b c : Int} (h : inR a b c = false) : ¬ (b ≤ a ∧ a ≤ c) := by
  intro ⟨h1, h2⟩
  simp [inR, h1, h2] at h
def vxV (c : List Int) (v : VxD) : Bool := inR v.r 0 30 && (inR v.a 0 ((c.length : Int) - 1) && (memV c v.p && (inR v.d 0 990 && (if v.r = 0 then decide (v.p.length = 0) else decide (quo c ≤ wgt c v.p)))))
def ltB (u v : VxD) : Bool := decide (u.r < v.r) || (decide (u.r = v.r) && decide (u.a < v.a))
theorem ltB_iff {u v : VxD} : ltB u v = true ↔ u.lt v := by
  unfold ltB VxD.lt
  simp [Bool.or_eq_true, Bool.and_eq_true]
def parB (g : List VxD) (v : VxD) : Bool := v.p.all fun x => (findV g (v.r - 1) x).isSome
def gcell (c : List Int) (g : List VxD) (i : Nat) : Bool := match g[i]? with
  | some v => vxV c v && ((match g[i - 1]? with
    | some u => decide (i = 0) || ltB u v
    | none => false) && parB g v)
  | none => false
def gV (c : List Int) (g : List VxD) : Bool := comV c && (List.range g.length).all (gcell c g)
theorem gV_cell {c : List Int} {g : List VxD} (h : gV c g = true) {i : Nat} {v : VxD} (hv : g[i]? = some v) : vxV c v = true ∧ parB g v = true ∧ ∀ u, 0 < i → g[i - 1]? = some u → u.lt v := by
  unfold gV at h
  rw [Bool.and_eq_true, List.all_eq_true] at h
  have hi := (List.getElem?_eq_some_iff.1 hv).1
  have h1 := h.2 i (by simpa using hi)
  unfold gcell at h1
  rw [hv] at h1
  simp only [Bool.and_eq_true] at h1
  refine ⟨h1.1, h1.2.2, fun u h0 hu => ?_⟩
  have h2 := h1.2.1
  rw [hu] at h2
  have h2 : (decide (i = 0) || ltB u v) = true := h2
  have h3 : decide (i = 0) = false := decide_eq_false (by omega)
  rw [h3, Bool.false_or] at h2
  exact ltB_iff.1 h2
theorem gV_sorted {c : List Int} {g : List VxD} (h : gV c g = true) : sortedV g :=
  sorted_of_next fun i u v hu hv => (gV_cell h hv).2.2 u (by omega) (by simpa using hu)
theorem asc_nodup {c s : List Int} (h : memV c s = true) : s.Nodup := by
  have hlt : ∀ (j i : Nat) x y, i < j → s[i]? = some x → s[j]? = some y → x < y := by
    intro j
    induction j with
    | zero => intro i x y hij; omega
    | succ j ih =>
      intro i x y hij hx hy
      have hj := (List.getElem?_eq_some_iff.1 hy).1
      have hz : s[j]? = some s[j] := List.getElem?_eq_getElem (by omega)
      have h1 := mem_all h (j + 1) hj
      simp only [mcell, getD_of hy, Nat.add_sub_cancel, getD_of hz, Bool.and_eq_true, Bool.or_eq_true, decide_eq_true_eq] at h1
      have h2 : s[j] < y := by omega
      rcases Nat.lt_or_ge i j with hlt | hge
      · have := ih i x _ hlt hx hz
        omega
      · obtain rfl : i = j := by omega
        rw [hx] at hz
        cases hz
        exact h2
  refine List.pairwise_iff_getElem.2 fun i j hi hj hij e => ?_
  have := hlt j i _ _ hij (List.getElem?_eq_getElem hi) (List.getElem?_eq_getElem hj)
  omega
theorem vx_out {c : List Int} {v : VxD} (h : vxV c v = true) : (0 ≤ v.r ∧ v.r ≤ 30) ∧ (0 ≤ v.a ∧ v.a < c.length) ∧ memV c v.p = true ∧ (v.r = 0 → v.p = []) ∧ (v.r ≠ 0 → quo c ≤ wgt c v.p) := by
  unfold vxV at h
  simp only [Bool.and_eq_true] at h
  obtain ⟨h1, h2, h3, h4, h5⟩ := h
  have g1 := inR_out h1
  have g2 := inR_out h2
  refine ⟨g1, by omega, h3, fun e => ?_, fun e => ?_⟩
  · rw [if_pos e] at h5
    exact List.eq_nil_of_length_eq_zero (of_decide_eq_true h5)
  · rw [if_neg e] at h5
    exact of_decide_eq_true h5
/-- A valid graph is as the plain laws ask. -/
theorem gV_ok {c : List Int} {g : List VxD} (h : gV c g = true) : Gok c g := by
  have hc : comV c = true := by
    unfold gV at h
    rw [Bool.and_eq_true] at h
    exact h.1
  refine ⟨fun x hx => ((com_out hc).2.2 x hx).1, gV_sorted h, fun v hv => ?_, fun v hv h0 => ?_⟩
  · obtain ⟨i, hi⟩ := List.mem_iff_getElem?.1 hv
    obtain ⟨h1, h2, _⟩ := gV_cell h hi
    have hm := (vx_out h1).2.2.1
    refine ⟨asc_nodup hm, fun x hx => ?_, fun x hx => ?_⟩
    · obtain ⟨j, hj⟩ := List.mem_iff_getElem?.1 hx
      exact mem_rng hm hj
    · unfold parB at h2
      rw [List.all_eq_true] at h2
      exact Option.isSome_iff_exists.1 (h2 x hx)
  · obtain ⟨i, hi⟩ := List.mem_iff_getElem?.1 hv
    obtain ⟨h1, _, _⟩ := gV_cell h hi
    exact (vx_out h1).2.2.2.2 h0
theorem gV_auth {c : List Int} {g : List VxD} (h : gV c g = true) : ∀ v ∈ g, 0 ≤ v.a ∧ v.a < c.length := fun v hv => by
  obtain ⟨i, hi⟩ := List.mem_iff_getElem?.1 hv
  exact (vx_out (gV_cell h hi).1).2.1
end Go.Proofs.YtkabnbjlglippaaGreatDoor
namespace Go.Proofs.YtkabnbjlglippaaGreatDoor
open Go Go.Vc
/-- Not behind: by round and then by author. -/
def leX (a b : VxD) : Prop := ¬ b.lt a
theorem leX_iff {a b : VxD} : leX a b ↔ a.r < b.r ∨ (a.r = b.r ∧ a.a ≤ b.a) := by
  unfold leX VxD.lt
  omega
theorem leX_trans {a b c : VxD} (h : leX a b) (k : leX b c) : leX a c := by
  rw [leX_iff] at *
  omega
theorem leX_of_lt {a b : VxD} (h : a.lt b) : leX a b := by
  rw [leX_iff]
  unfold VxD.lt at h
  omega
theorem leX_refl (a : VxD) : leX a a := by
  rw [leX_iff]
  omega
/-- A heap of the first n, but for vertex i, which may have to sink. -/
structure HpAt (l : List VxD) (n i : Nat) : Prop where
  up : ∀ j u v, 0 < j → j < n → (j - 1) / 2 ≠ i → l[(j - 1) / 2]? = some u → l[j]? = some v → leX u v
  skip : ∀ j u v, 0 < j → j < n → (j - 1) / 2 = i → 0 < i → l[(i - 1) / 2]? = some u → l[j]? = some v → leX u v
def Hp (l : List VxD) (n : Nat) : Prop := ∀ j u v, 0 < j → j < n → l[(j - 1) / 2]? = some u → l[j]? = some v → leX u v
theorem sw_get {l : List VxD} {i j : Nat} {a b : VxD} (hi : l[i]? = some a) (hj : l[j]? = some b) (x : Nat) : ((l.set i b).set j a)[x]? = if x = j then some a else if x = i then some b else l[x]? := by
  have h1 := (List.getElem?_eq_some_iff.1 hi).1
  have h2 := (List.getElem?_eq_some_iff.1 hj).1
  rw [List.getElem?_set]
  by_cases e : j = x
  · rw [if_pos e, if_pos e.symm, if_pos (by rw [List.length_set]; exact h2)]
  · rw [if_neg e, if_neg fun h => e h.symm, List.getElem?_set]
    by_cases e2 : i = x
    · rw [if_pos e2, if_pos e2.symm, if_pos h1]
    · rw [if_neg e2, if_neg fun h => e2 h.symm]
theorem sw_perm {l : List VxD} {i j : Nat} {a b : VxD} (hi : l[i]? = some a) (hj : l[j]? = some b) : ((l.set i b).set j a).Perm l := by
  obtain ⟨h1, rfl⟩ := List.getElem?_eq_some_iff.1 hi
  obtain ⟨h2, rfl⟩ := List.getElem?_eq_some_iff.1 hj
  exact List.set_set_perm h1 h2
theorem hp_swap {l : List VxD} {n i j : Nat} {a b : VxD} (h : HpAt l n i) (hj0 : 0 < j) (hjn : j < n) (hp : (j - 1) / 2 = i) (hi : l[i]? = some a) (hj : l[j]? = some b) (hlt : b.lt a)
    (hs : ∀ x v, 0 < x → x < n → (x - 1) / 2 = i → l[x]? = some v → leX b v) : HpAt ((l.set i b).set j a) n j := by
  have hij : i < j := by omega
  refine ⟨fun x u v hx0 hxn hxp hu hv => ?_, fun x u v hx0 hxn hxp _ hu hv => ?_⟩
  · rw [sw_get hi hj] at hu hv
    rw [if_neg hxp] at hu
    by_cases e1 : x = j
    · subst e1
      rw [if_pos rfl] at hv
      rw [if_pos hp] at hu
      cases hu
      cases hv
      exact leX_of_lt hlt
    · rw [if_neg e1] at hv
      by_cases e2 : x = i
      · subst e2
        rw [if_pos rfl] at hv
        rw [if_neg (by omega)] at hu
        cases hv
        exact h.skip j u b hj0 hjn hp hx0 hu hj
      · rw [if_neg e2] at hv
        by_cases e3 : (x - 1) / 2 = i
        · rw [if_pos e3] at hu
          cases hu
          exact hs x v hx0 hxn e3 hv
        · rw [if_neg e3] at hu
          exact h.up x u v hx0 hxn e3 hu hv
  · rw [sw_get hi hj] at hu hv
    rw [if_neg (by omega), if_pos hp] at hu
    rw [if_neg (by omega), if_neg (by omega)] at hv
    cases hu
    exact h.up x b v hx0 hxn (by omega) (by rw [hxp]; exact hj) hv
theorem hp_stop {l : List VxD} {n i : Nat} {a : VxD} (h : HpAt l n i) (hi : l[i]? = some a) (hs : ∀ x v, 0 < x → x < n → (x - 1) / 2 = i → l[x]? = some v → leX a v) : Hp l n := by
  intro j u v hj0 hjn hu hv
  by_cases e : (j - 1) / 2 = i
  · rw [e, hi] at hu
    cases hu
    exact hs j v hj0 hjn e hv
  · exact h.up j u v hj0 hjn e hu hv
/-- The least stands first. -/
theorem hp_min {l : List VxD} {n : Nat} (h : Hp l n) (hn : n ≤ l.length) {a : VxD} (ha : l[0]? = some a) : ∀ (j : Nat) v, j < n → l[j]? = some v → leX a v := by
  intro j
  induction j using Nat.strongRecOn with
  | _ j ih =>
    intro v hj hv
    by_cases e : j = 0
    · subst e
      rw [ha] at hv
      cases hv
      exact leX_refl _
    · have hlt : (j - 1) / 2 < l.length := by omega
      have hp : l[(j - 1) / 2]? = some l[(j - 1) / 2] := List.getElem?_eq_getElem hlt
      exact leX_trans (ih ((j - 1) / 2) (by omega) _ (by omega) hp) (h j _ v (by omega) hj hp hv)
/-- What sinking leaves. -/
structure Sunk (l0 l : List VxD) (n : Nat) : Prop where
  perm : l.Perm l0
  rest : ∀ x, n ≤ x → l[x]? = l0[x]?
theorem sunk_refl {l : List VxD} {n : Nat} : Sunk l l n := ⟨.refl _, fun _ _ => rfl⟩
theorem sunk_swap {l0 l : List VxD} {n i j : Nat} {a b : VxD} (h : Sunk l0 l n) (hi : l[i]? = some a) (hj : l[j]? = some b) (hin : i < n) (hjn : j < n) : Sunk l0 ((l.set i b).set j a) n :=
  ⟨(sw_perm hi hj).trans h.perm, fun x hx => by rw [sw_get hi hj, if_neg (by omega), if_neg (by omega)]; exact h.rest x hx⟩
/-- One taken out: the least one, the others a heap. -/
structure Popd (l : List VxD) (v : VxD) (l' : List VxD) : Prop where
  perm : (l' ++ [v]).Perm l
  heap : Hp l' l'.length
  min : ∀ u ∈ l', leX v u
theorem hp_mem {l : List VxD} {n : Nat} (h : Hp l n) (hn : n = l.length) {a : VxD} (ha : l[0]? = some a) : ∀ u ∈ l, leX a u := by
  intro u hu
  obtain ⟨j, hj⟩ := List.mem_iff_getElem?.1 hu
  have := (List.getElem?_eq_some_iff.1 hj).1
  exact hp_min h (by omega) ha j u (by omega) hj
theorem popd_of {l l1 : List VxD} {n : Nat} {a b : VxD} (h : Hp l l.length) (hl : l.length = n + 1) (ha : l[0]? = some a) (hb : l[n]? = some b) (hs : Sunk ((l.set 0 b).set n a) l1 n) (h1 : Hp l1 n) : l1[n]? = some a ∧ Popd l a (l1.take n) := by
  have hlen : l1.length = n + 1 := by rw [hs.perm.length_eq]; simp [hl]
  have hat : l1[n]? = some a := by rw [hs.rest n (Nat.le_refl _), sw_get ha hb, if_pos rfl]
  have hsp : l1.take n ++ [a] = l1 := by
    have := List.take_append_drop n l1
    conv => rhs; rw [← this]
    congr 1
    have h2 : n < l1.length := by omega
    rw [List.drop_eq_getElem_cons h2, List.drop_of_length_le (by omega)]
    have : l1[n] = a := by
      have := List.getElem?_eq_getElem h2
      rw [hat] at this
      exact (Option.some.inj this).symm
    rw [this]
  have hpm : (l1.take n ++ [a]).Perm l := by rw [hsp]; exact hs.perm.trans (sw_perm ha hb)
  refine ⟨hat, hpm, ?_, fun u hu => ?_⟩
  · intro j u v hj0 hjn hu hv
    rw [List.length_take] at hjn
    rw [List.getElem?_take] at hu hv
    rw [if_pos (by omega)] at hu hv
    exact h1 j u v hj0 (by omega) hu hv
  · exact hp_mem h rfl ha u (hpm.subset (List.mem_append_left _ hu))
/-- At the start: the last one stands first and may have to sink. -/
theorem hp_first {l : List VxD} {n : Nat} {a b : VxD} (h : Hp l l.length) (hl : l.length = n + 1) (ha : l[0]? = some a) (hb : l[n]? = some b) : HpAt ((l.set 0 b).set n a) n 0 := by
  refine ⟨fun j u v hj0 hjn hp hu hv => ?_, fun j u v _ _ _ h0 _ _ => absurd h0 (by omega)⟩
  rw [sw_get ha hb] at hu hv
  rw [if_neg (by omega), if_neg hp] at hu
  rw [if_neg (by omega), if_neg (by omega)] at hv
  exact h j u v hj0 (by omega) hu hv
theorem hp_sorted {l : List VxD} (h : l.Pairwise VxD.lt) (n : Nat) : Hp l n := by
  intro j u v hj0 hjn hu hv
  obtain ⟨h1, rfl⟩ := List.getElem?_eq_some_iff.1 hu
  obtain ⟨h2, rfl⟩ := List.getElem?_eq_some_iff.1 hv
  exact leX_of_lt (List.pairwise_iff_getElem.1 h _ _ h1 h2 (by omega))
/-- What has been taken out so far, and what still waits. -/
structure Drn (l0 o l : List VxD) : Prop where
  perm : (o ++ l).Perm l0
  srt : o.Pairwise leX
  le : ∀ u ∈ o, ∀ v ∈ l, leX u v
  heap : Hp l l.length
theorem drn_start {l : List VxD} (h : Hp l l.length) : Drn l [] l := ⟨.refl _, .nil, by simp, h⟩
theorem drn_next {l0 o l l' : List VxD} {v : VxD} (h : Drn l0 o l) (p : Popd l v l') : Drn l0 (o ++ [v]) l' := by
  have hm : ∀ u, u ∈ l' ∨ u = v → u ∈ l := fun u hu => p.perm.subset (by simpa using hu)
  refine ⟨?_, List.pairwise_append.2 ⟨h.srt, by simp, fun a ha b hb => ?_⟩, fun u hu w hw => ?_, p.heap⟩
  · rw [List.append_assoc]
    refine (List.Perm.append_left o ?_).trans h.perm
    exact (List.perm_append_comm (l₁ := [v]) (l₂ := l')).trans p.perm
  · rw [List.mem_singleton.1 hb]
    exact h.le a ha v (hm v (.inr rfl))
  · rcases List.mem_append.1 hu with hu | hu
    · exact h.le u hu w (hm w (.inl hw))
    · rw [List.mem_singleton.1 hu]
      exact p.min w hw
theorem sorted_perm : ∀ {o m : List VxD}, o.Perm m → o.Pairwise leX → m.Pairwise VxD.lt → o = m
  | [], m, hp, _, _ => hp.nil_eq
  | a :: o, [], hp, _, _ => absurd hp.length_eq (by simp)
  | a :: o, b :: m, hp, ho, hm => by
    have ha : a ∈ b :: m := hp.subset (by simp)
    have hb : b ∈ a :: o := hp.symm.subset (by simp)
    have e : a = b := by
      rcases List.mem_cons.1 ha with e | ha
      · exact e
      · rcases List.mem_cons.1 hb with e | hb
        · exact e.symm
        · have h1 := (List.pairwise_cons.1 hm).1 a ha
          have h2 := (List.pairwise_cons.1 ho).1 b hb
          exact absurd h1 h2
    subst e
    rw [sorted_perm (hp.cons_inv) (List.pairwise_cons.1 ho).2 (List.pairwise_cons.1 hm).2]
theorem drn_done {l0 o : List VxD} (h : Drn l0 o []) (hs : l0.Pairwise VxD.lt) : o = l0 := by
  have := h.perm
  rw [List.append_nil] at this
  exact sorted_perm this h.srt hs
end Go.Proofs.YtkabnbjlglippaaGreatDoor
namespace Go.Proofs.YtkabnbjlglippaaGreatDoor
open Go Go.Vc
/-- Wave w would order vertex k: its leader depends on it, and it is not below the horizon. -/
noncomputable def selV (g : List VxD) (L : List Int) (w k : Nat) : Bool := by
  classical
  exact match leadV g L w, g[k]? with
  | some i, some v => decide (Reach g i k ∧ 2 * (w : Int) - 7 ≤ v.r)
  | _, _ => false
theorem sel_iff {g : List VxD} {L : List Int} {w k : Nat} : selV g L w k = true ↔ ∃ i v, leadV g L w = some i ∧ g[k]? = some v ∧ Reach g i k ∧ 2 * (w : Int) - 7 ≤ v.r := by
  constructor
  · intro h
    unfold selV at h
    split at h
    · rename_i i v h1 h2
      have h : Reach g i k ∧ 2 * (w : Int) - 7 ≤ v.r := by simpa using h
      exact ⟨i, v, h1, h2, h.1, h.2⟩
    · cases h
  · rintro ⟨i, v, h1, h2, h3, h4⟩
    unfold selV
    rw [h1, h2]
    simp [h3, h4]
/-- The first of the waves that would order it. -/
noncomputable def wvV (g : List VxD) (L : List Int) (W : List Nat) (k : Nat) : Nat := match W.find? fun w => selV g L w k with
  | some w => w
  | none => 0
variable {g : List VxD} {L : List Int} {W : List Nat}
theorem wv_iff : ∀ {W : List Nat}, W.Pairwise (· < ·) → ∀ {k w : Nat}, 0 < w → (wvV g L W k = w ↔ w ∈ W ∧ selV g L w k = true ∧ ∀ x ∈ W, x < w → selV g L x k = false)
  | [], _, k, w, h0 => by
    constructor
    · intro h
      have h : 0 = w := h
      omega
    · rintro ⟨h, _⟩
      cases h
  | x :: W, hp, k, w, h0 => by
    obtain ⟨hx, hp2⟩ := List.pairwise_cons.1 hp
    cases hs : selV g L x k with
    | true =>
      have e : wvV g L (x :: W) k = x := by simp [wvV, hs]
      rw [e]
      constructor
      · rintro rfl
        refine ⟨by simp, hs, fun y hy hlt => ?_⟩
        rcases List.mem_cons.1 hy with rfl | hy
        · omega
        · have := hx y hy
          omega
      · rintro ⟨h1, h2, h3⟩
        rcases List.mem_cons.1 h1 with e | h1
        · exact e.symm
        · have := h3 x (by simp) (hx w h1)
          rw [hs] at this
          cases this
    | false =>
      have e : wvV g L (x :: W) k = wvV g L W k := by simp [wvV, hs]
      rw [e, wv_iff hp2 h0]
      constructor
      · rintro ⟨h1, h2, h3⟩
        refine ⟨by simp [h1], h2, fun y hy hlt => ?_⟩
        rcases List.mem_cons.1 hy with rfl | hy
        · exact hs
        · exact h3 y hy hlt
      · rintro ⟨h1, h2, h3⟩
        rcases List.mem_cons.1 h1 with rfl | h1
        · rw [hs] at h2
          cases h2
        · exact ⟨h1, h2, fun y hy hlt => h3 y (by simp [hy]) hlt⟩
theorem wv_zero {k : Nat} : wvV g L W k = 0 ∨ wvV g L W k ∈ W := by
  unfold wvV
  split
  · rename_i w h
    exact .inr (List.mem_of_find?_eq_some h)
  · exact .inl rfl
theorem wv_some {k w : Nat} (hp : W.Pairwise (· < ·)) (_h0 : ∀ x ∈ W, 0 < x) (hw : w ∈ W) (hs : selV g L w k = true) : wvV g L W k ∈ W ∧ wvV g L W k ≤ w := by
  have key : ∀ {W : List Nat}, W.Pairwise (· < ·) → w ∈ W → wvV g L W k ∈ W ∧ wvV g L W k ≤ w := by
    intro W
    induction W with
    | nil => intro _ h; cases h
    | cons x W ih =>
      intro hp hw
      obtain ⟨hx, hp2⟩ := List.pairwise_cons.1 hp
      cases e : selV g L x k with
      | true =>
        have e2 : wvV g L (x :: W) k = x := by simp [wvV, e]
        rw [e2]
        refine ⟨by simp, ?_⟩
        rcases List.mem_cons.1 hw with rfl | hw
        · exact Nat.le_refl _
        · exact Nat.le_of_lt (hx w hw)
      | false =>
        have e2 : wvV g L (x :: W) k = wvV g L W k := by simp [wvV, e]
        rw [e2]
        rcases List.mem_cons.1 hw with rfl | hw
        · rw [hs] at e
          cases e
        · have := ih hp2 hw
          exact ⟨by simp [this.1], this.2⟩
  exact key hp hw
/-- What wave w orders, by index. -/
noncomputable def blkW (g : List VxD) (L : List Int) (W : List Nat) (w : Nat) : List Nat := (List.range g.length).filter fun k => wvV g L W k == w
/-- The order: indexes with their waves. -/
noncomputable def ordV (g : List VxD) (L : List Int) (W : List Nat) : List (Nat × Nat) := W.flatMap fun w => (blkW g L W w).map fun k => (k, w)
theorem blk_mem {w k : Nat} : k ∈ blkW g L W w ↔ k < g.length ∧ wvV g L W k = w := by
  simp [blkW]
theorem ord_mem {k w : Nat} : (k, w) ∈ ordV g L W ↔ w ∈ W ∧ k < g.length ∧ wvV g L W k = w := by
  unfold ordV
  rw [List.mem_flatMap]
  constructor
  · rintro ⟨x, hx, h⟩
    obtain ⟨j, hj, e⟩ := List.mem_map.1 h
    cases e
    exact ⟨hx, blk_mem.1 hj⟩
  · rintro ⟨h1, h2⟩
    exact ⟨w, h1, List.mem_map.2 ⟨k, blk_mem.2 h2, rfl⟩⟩
/-- Ahead in the order: by wave, then by index. -/
def ahead (p q : Nat × Nat) : Prop := p.2 < q.2 ∨ (p.2 = q.2 ∧ p.1 < q.1)
theorem blk_asc {w : Nat} : (blkW g L W w).Pairwise (· < ·) := List.Pairwise.filter _ List.pairwise_lt_range
theorem ord_pair (hp : W.Pairwise (· < ·)) : (ordV g L W).Pairwise ahead := by
  unfold ordV
  rw [List.pairwise_flatMap]
  refine ⟨fun w _ => ?_, hp.imp fun {a b} hab => ?_⟩
  · rw [List.pairwise_map]
    exact blk_asc.imp fun h => .inr ⟨rfl, h⟩
  · intro x hx y hy
    obtain ⟨_, _, rfl⟩ := List.mem_map.1 hx
    obtain ⟨_, _, rfl⟩ := List.mem_map.1 hy
    exact .inl hab
theorem ord_get (hp : W.Pairwise (· < ·)) {i j : Nat} {p q : Nat × Nat} (hi : (ordV g L W)[i]? = some p) (hj : (ordV g L W)[j]? = some q) (hij : i < j) : ahead p q := by
  obtain ⟨h1, rfl⟩ := List.getElem?_eq_some_iff.1 hi
  obtain ⟨h2, rfl⟩ := List.getElem?_eq_some_iff.1 hj
  exact List.pairwise_iff_getElem.1 (ord_pair hp) i j h1 h2 hij
/-- Who is ahead stands ahead. -/
theorem ord_lt (hp : W.Pairwise (· < ·)) {i j : Nat} {p q : Nat × Nat} (hi : (ordV g L W)[i]? = some p) (hj : (ordV g L W)[j]? = some q) (h : ahead p q) : i < j := by
  rcases Nat.lt_trichotomy i j with hlt | e | hlt
  · exact hlt
  · subst e
    rw [hi] at hj
    cases hj
    unfold ahead at h
    omega
  · have := ord_get hp hj hi hlt
    unfold ahead at h this
    omega
/-- No vertex stands twice. -/
theorem ord_once (hp : W.Pairwise (· < ·)) {i j : Nat} {p q : Nat × Nat} (hi : (ordV g L W)[i]? = some p) (hj : (ordV g L W)[j]? = some q) (h : p.1 = q.1) : i = j := by
  have h1 := ord_mem.1 (List.mem_of_getElem? hi)
  have h2 := ord_mem.1 (List.mem_of_getElem? hj)
  have e : p.2 = q.2 := by rw [← h1.2.2, ← h2.2.2, h]
  rcases Nat.lt_trichotomy i j with hlt | e2 | hlt
  · have := ord_get hp hi hj hlt
    unfold ahead at this
    omega
  · exact e2
  · have := ord_get hp hj hi hlt
    unfold ahead at this
    omega
theorem rng_flat {f : Nat → List Nat} : ∀ (n s : Nat) (W : List Nat), W.Pairwise (· < ·) → (∀ w ∈ W, s ≤ w ∧ w < s + n) → (∀ x, s ≤ x → x ∉ W → f x = []) → (List.range' s n).flatMap f = W.flatMap f
  | 0, s, W, _, h, _ => by
    cases W with
    | nil => rfl
    | cons w W => have := h w (by simp); omega
  | n + 1, s, W, hp, h, hf => by
    rw [List.range'_succ, List.flatMap_cons]
    cases W with
    | nil =>
      rw [hf s (Nat.le_refl _) (by simp), rng_flat n (s + 1) [] hp (by simp) fun x hx _ => hf x (by omega) (by simp)]
      rfl
    | cons w W =>
      obtain ⟨hx, hp2⟩ := List.pairwise_cons.1 hp
      have hw := h w (by simp)
      by_cases e : w = s
      · subst e
        rw [List.flatMap_cons, rng_flat n (w + 1) W hp2 (fun x hm => by
          have h1 := hx x hm
          have h2 := h x (by simp [hm])
          omega) fun x hxs hm => hf x (by omega) (by
            intro hc
            rcases List.mem_cons.1 hc with rfl | hc
            · omega
            · exact hm hc)]
      · have hns : s ∉ w :: W := by
          intro hc
          rcases List.mem_cons.1 hc with rfl | hc
          · exact e rfl
          · have := hx s hc
            omega
        rw [hf s (Nat.le_refl _) hns, List.nil_append]
        exact rng_flat n (s + 1) (w :: W) hp (fun x hm => by
          have h2 := h x hm
          have : x ≠ s := by rintro rfl; exact hns hm
          omega) fun x hxs hm => hf x (by omega) hm
theorem blk_none {w : Nat} (h0 : 0 < w) (h : w ∉ W) : blkW g L W w = [] := by
  unfold blkW
  rw [List.filter_eq_nil_iff]
  intro k _
  rcases wv_zero (g := g) (L := L) (W := W) (k := k) with e | e
  · simp; omega
  · simp
    intro e2
    rw [e2] at e
    exact h e
/-- The reference's order: wave by wave. -/
theorem ord_idx {n : Nat} (hp : W.Pairwise (· < ·)) (h : ∀ w ∈ W, 0 < w ∧ w ≤ n) : (List.range' 1 n).flatMap (blkW g L W) = (ordV g L W).map (·.1) := by
  rw [rng_flat n 1 W hp (fun w hw => by have := h w hw; omega) fun x hx hm => blk_none hx hm]
  unfold ordV
  rw [List.map_flatMap]
  simp [Function.comp_def]
theorem sorted_r (hs : sortedV g) {i j : Nat} {u v : VxD} (hu : g[i]? = some u) (hv : g[j]? = some v) (h : i ≤ j) : u.r ≤ v.r := by
  rcases Nat.lt_or_ge i j with hlt | hge
  · have := hs i j u v hlt hu hv
    unfold VxD.lt at this
    omega
  · obtain rfl : i = j := by omega
    rw [hu] at hv
    cases hv
    exact Int.le_refl _
theorem lead_at {w i : Nat} (h : leadV g L w = some i) : ∃ v, g[i]? = some v ∧ v.r = 2 * w - 1 ∧ v.a = L.getD (w - 1) 0 ∧ 0 < w := by
  obtain ⟨h0, _, hf⟩ := lead_out h
  obtain ⟨v, h1, h2, h3⟩ := find_out hf
  exact ⟨v, h1, h2, h3, h0⟩
/-- A leader is ordered by its own wave. -/
theorem wv_lead (hs : sortedV g) (hp : W.Pairwise (· < ·)) {w i : Nat} (hw : w ∈ W) (h : leadV g L w = some i) : wvV g L W i = w ∧ i < g.length := by
  obtain ⟨v, hv, hr, _, h0⟩ := lead_at h
  refine ⟨(wv_iff hp h0).2 ⟨hw, sel_iff.2 ⟨i, v, h, hv, .refl, by omega⟩, fun x hx hlt => ?_⟩, (List.getElem?_eq_some_iff.1 hv).1⟩
  cases e : selV g L x i with
  | false => rfl
  | true =>
    obtain ⟨j, u, h1, h2, h3, _⟩ := sel_iff.1 e
    obtain ⟨t, ht, htr, _, _⟩ := lead_at h1
    have := sorted_r hs hv ht (reach_le hs h3)
    omega
/-- Everything between the horizon and a committed leader is ordered. -/
theorem wv_past (hp : W.Pairwise (· < ·)) (h0 : ∀ x ∈ W, 0 < x) {w i k : Nat} {v : VxD} (hw : w ∈ W) (h : leadV g L w = some i) (hv : g[k]? = some v) (hr : Reach g i k) (hh : 2 * (w : Int) - 7 ≤ v.r) : wvV g L W k ∈ W ∧ wvV g L W k ≤ w :=
  wv_some hp h0 hw (sel_iff.2 ⟨i, v, h, hv, hr, hh⟩)
/-- Causes are ahead of effects. -/
theorem ord_cause (hs : sortedV g) (hp : W.Pairwise (· < ·)) (h0 : ∀ x ∈ W, 0 < x) {k j : Nat} (hk : wvV g L W k ∈ W) (hj : wvV g L W j ∈ W) (hkj : j ∈ parI g k) : ahead (j, wvV g L W j) (k, wvV g L W k) := by
  have hlt := par_lt hs hkj
  obtain ⟨_, h2, _⟩ := (wv_iff hp (h0 _ hk)).1 rfl
  obtain ⟨i, v, e1, e2, e3, e4⟩ := sel_iff.1 h2
  obtain ⟨_, g2, _⟩ := (wv_iff hp (h0 _ hj)).1 rfl
  obtain ⟨i', u, f1, f2, f3, f4⟩ := sel_iff.1 g2
  have hle : wvV g L W j ≤ wvV g L W k := by
    rcases Nat.lt_or_ge (wvV g L W k) (wvV g L W j) with hlt2 | hge
    · exact (wv_past hp h0 hk e1 f2 (.step e3 hkj) (by omega)).2
    · exact hge
  unfold ahead
  simp only
  omega
end Go.Proofs.YtkabnbjlglippaaGreatDoor
namespace Go.Proofs.YtkabnbjlglippaaGreatDoor
open Go Go.Vc
variable {g : List VxD} {L : List Int} {W : List Nat}
/-- The vertex of an index. -/
def gAt (g : List VxD) (k : Nat) : VxD := g.getD k ⟨0, 0, [], 0⟩
theorem gAt_of {k : Nat} {v : VxD} (h : g[k]? = some v) : gAt g k = v := by
  rw [gAt, List.getD_eq_getElem?_getD, h]
  rfl
theorem gAt_get {k : Nat} (h : k < g.length) : g[k]? = some (gAt g k) := by
  have h1 : g[k]? = some g[k] := List.getElem?_eq_getElem h
  rw [gAt_of h1, h1]
theorem idx_uniq (hs : sortedV g) {i j : Nat} {u v : VxD} (hu : g[i]? = some u) (hv : g[j]? = some v) (hr : u.r = v.r) (ha : u.a = v.a) : i = j := by
  have h1 := find_at hs hu
  have h2 := find_at hs hv
  rw [hr, ha, h2] at h1
  exact (Option.some.inj h1).symm
noncomputable def blkX (g : List VxD) (L : List Int) (W : List Nat) (w : Nat) : List VxD := (blkW g L W w).map (gAt g)
noncomputable def ordX (g : List VxD) (L : List Int) (W : List Nat) : List VxD := W.flatMap (blkX g L W)
theorem ordX_eq : ordX g L W = (ordV g L W).map fun p => gAt g p.1 := by
  unfold ordX ordV blkX
  rw [List.map_flatMap]
  simp [Function.comp_def]
theorem blkX_mem {w : Nat} {v : VxD} : v ∈ blkX g L W w ↔ ∃ k, g[k]? = some v ∧ wvV g L W k = w := by
  unfold blkX
  rw [List.mem_map]
  constructor
  · rintro ⟨k, hk, rfl⟩
    obtain ⟨h1, h2⟩ := blk_mem.1 hk
    exact ⟨k, gAt_get h1, h2⟩
  · rintro ⟨k, hk, h2⟩
    exact ⟨k, blk_mem.2 ⟨(List.getElem?_eq_some_iff.1 hk).1, h2⟩, gAt_of hk⟩
theorem idx_lt (hs : sortedV g) {l : List Nat} (hl : l.Pairwise (· < ·)) (hb : ∀ k ∈ l, k < g.length) : (l.map (gAt g)).Pairwise VxD.lt := by
  rw [List.pairwise_map]
  refine List.Pairwise.imp_of_mem (fun {a b} ha hb2 hab => ?_) hl
  exact hs a b _ _ hab (gAt_get (hb a ha)) (gAt_get (hb b hb2))
theorem blkX_lt (hs : sortedV g) {w : Nat} : (blkX g L W w).Pairwise VxD.lt := idx_lt hs blk_asc fun _ hk => (blk_mem.1 hk).1
def selX (g : List VxD) (L : List Int) (w : Nat) (v : VxD) : Prop := ∃ k, g[k]? = some v ∧ selV g L w k = true
theorem blkX_iff (hs : sortedV g) (hp : W.Pairwise (· < ·)) {w : Nat} {v : VxD} (h0 : 0 < w) : v ∈ blkX g L W w ↔ w ∈ W ∧ selX g L w v ∧ ∀ x ∈ W, x < w → ¬ selX g L x v := by
  rw [blkX_mem]
  constructor
  · rintro ⟨k, hk, h⟩
    obtain ⟨h1, h2, h3⟩ := (wv_iff hp h0).1 h
    refine ⟨h1, ⟨k, hk, h2⟩, fun x hx hlt => ?_⟩
    rintro ⟨j, hj, h4⟩
    have := idx_uniq hs hj hk rfl rfl
    subst this
    rw [h3 x hx hlt] at h4
    cases h4
  · rintro ⟨h1, ⟨k, hk, h2⟩, h3⟩
    refine ⟨k, hk, (wv_iff hp h0).2 ⟨h1, h2, fun x hx hlt => ?_⟩⟩
    cases e : selV g L x k with
    | false => rfl
    | true => exact absurd ⟨k, hk, e⟩ (h3 x hx hlt)
theorem sub_selX {a : List VxD} (hg : sortedV g) (h : Sub a g) {w : Nat} {v : VxD} (hw : hasV a L w = true) : selX a L w v ↔ selX g L w v := by
  obtain ⟨i, hi⟩ := has_lead hw
  obtain ⟨j, u, e1, e2, e3⟩ := sub_lead hg h hi
  constructor
  · rintro ⟨k, hk, hs⟩
    obtain ⟨i2, v2, f1, f2, f3, f4⟩ := sel_iff.1 hs
    rw [hi] at f1
    cases f1
    rw [hk] at f2
    cases f2
    obtain ⟨m, t, q1, q2, q3⟩ := sub_up hg h f3 e2 e3
    rw [hk] at q1
    cases q1
    exact ⟨m, q2, sel_iff.2 ⟨j, _, e1, q2, q3, f4⟩⟩
  · rintro ⟨k, hk, hs⟩
    obtain ⟨i2, v2, f1, f2, f3, f4⟩ := sel_iff.1 hs
    rw [e1] at f1
    cases f1
    rw [hk] at f2
    cases f2
    obtain ⟨m, t, q1, q2, q3⟩ := sub_down hg h f3 e2 e3
    rw [hk] at q2
    cases q2
    exact ⟨m, q1, sel_iff.2 ⟨i, _, hi, q1, q3, f4⟩⟩
theorem same_mem {o m : List VxD} (ho : o.Pairwise VxD.lt) (hm : m.Pairwise VxD.lt) (h : ∀ v, v ∈ o ↔ v ∈ m) : o = m := by
  have nd : ∀ {l : List VxD}, l.Pairwise VxD.lt → l.Nodup := fun {l} hl => hl.imp fun {a b} hab e => by subst e; exact VxD.lt_irrefl hab
  exact sorted_perm ((List.perm_ext_iff_of_nodup (nd ho) (nd hm)).2 h) (ho.imp leX_of_lt) hm
theorem blk_same {a b : List VxD} {Wa Wb : List Nat} (hg : sortedV g) (ha : Sub a g) (hb : Sub b g) (hpa : Wa.Pairwise (· < ·)) (hpb : Wb.Pairwise (· < ·)) (hla : ∀ w ∈ Wa, 0 < w ∧ hasV a L w = true) (hlb : ∀ w ∈ Wb, 0 < w ∧ hasV b L w = true)
    (hab : Wa <+: Wb) {w : Nat} (hw : w ∈ Wa) : blkX a L Wa w = blkX b L Wb w := by
  refine same_mem (blkX_lt ha.srt) (blkX_lt hb.srt) fun v => ?_
  rw [blkX_iff ha.srt hpa (hla w hw).1, blkX_iff hb.srt hpb (hla w hw).1]
  obtain ⟨t, rfl⟩ := hab
  have hx : ∀ x, x ∈ Wa → (selX a L x v ↔ selX b L x v) := fun x hx => (sub_selX hg ha (hla x hx).2).trans (sub_selX hg hb (hlb x (List.mem_append_left _ hx)).2).symm
  constructor
  · rintro ⟨h1, h2, h3⟩
    refine ⟨List.mem_append_left _ h1, (hx w hw).1 h2, fun x hxm hlt hs => ?_⟩
    rcases List.mem_append.1 hxm with hxa | hxt
    · exact h3 x hxa hlt ((hx x hxa).2 hs)
    · have := (List.pairwise_append.1 hpb).2.2 w hw x hxt
      omega
  · rintro ⟨h1, h2, h3⟩
    exact ⟨hw, (hx w hw).2 h2, fun x hxm hlt hs => h3 x (List.mem_append_left _ hxm) hlt ((hx x hxm).1 hs)⟩
/-- What one reader has ordered begins what the other has. -/
theorem ordX_prefix {a b : List VxD} {Wa Wb : List Nat} (hg : sortedV g) (ha : Sub a g) (hb : Sub b g) (hpa : Wa.Pairwise (· < ·)) (hpb : Wb.Pairwise (· < ·)) (hla : ∀ w ∈ Wa, 0 < w ∧ hasV a L w = true) (hlb : ∀ w ∈ Wb, 0 < w ∧ hasV b L w = true)
    (hab : Wa <+: Wb) : ordX a L Wa <+: ordX b L Wb := by
  have e : Wa.flatMap (blkX a L Wa) = Wa.flatMap (blkX b L Wb) := by
    have key : ∀ l : List Nat, (∀ w ∈ l, w ∈ Wa) → l.flatMap (blkX a L Wa) = l.flatMap (blkX b L Wb) := by
      intro l
      induction l with
      | nil => intro _; rfl
      | cons x l ih =>
        intro h
        rw [List.flatMap_cons, List.flatMap_cons, ih fun w hw => h w (by simp [hw]), blk_same hg ha hb hpa hpb hla hlb hab (h x (by simp))]
    exact key Wa fun w h => h
  obtain ⟨t, rfl⟩ := hab
  unfold ordX
  rw [e, List.flatMap_append]
  exact List.prefix_append _ _
theorem out_has {c : List Int} : ∀ w ∈ outV c g L, 0 < w ∧ hasV g L w = true := fun w hw => by
  have := out_mem hw
  exact ⟨this.1, this.2.2⟩
theorem ord_agree {c : List Int} {a b : List VxD} (hg : Gok c g) (ha : Sub a g) (hb : Sub b g) : ordX a L (outV c a L) <+: ordX b L (outV c b L) ∨ ordX b L (outV c b L) <+: ordX a L (outV c a L) := by
  rcases out_agree (L := L) hg ha hb with h | h
  · exact .inl (ordX_prefix hg.srt ha hb out_asc out_asc out_has out_has h)
  · exact .inr (ordX_prefix hg.srt hb ha out_asc out_asc out_has out_has h)
theorem ord_grow {c : List Int} {a : List VxD} (hg : Gok c g) (ha : Sub a g) : ordX a L (outV c a L) <+: ordX g L (outV c g L) :=
  ordX_prefix hg.srt ha (sub_self hg) out_asc out_asc out_has out_has (out_grow hg ha)
/-- The n-th committed leader stands at this place. -/
def hitL (L : List Int) (W : List Nat) (n : Nat) (v : VxD) : Bool := match W[n]? with
  | some w => decide (v.r = 2 * (w : Int) - 1 ∧ v.a = L.getD (w - 1) 0)
  | none => false
def cntL (L : List Int) (W : List Nat) : List VxD → Nat → Nat
  | [], n => n
  | v :: l, n => cntL L W l (if hitL L W n v = true then n + 1 else n)
theorem cntL_app : ∀ {l m : List VxD} {n : Nat}, cntL L W (l ++ m) n = cntL L W m (cntL L W l n)
  | [], _, _ => rfl
  | v :: l, m, n => by
    show cntL L W (l ++ m) _ = cntL L W m (cntL L W l _)
    exact cntL_app
theorem cntL_ge : ∀ {l : List VxD} {n : Nat}, n ≤ cntL L W l n
  | [], _ => Nat.le_refl _
  | v :: l, n => by
    show n ≤ cntL L W l _
    refine Nat.le_trans ?_ cntL_ge
    split <;> omega
theorem cntL_le : ∀ {l : List VxD} {n : Nat}, n ≤ W.length → cntL L W l n ≤ W.length
  | [], _, h => h
  | v :: l, n, h => by
    show cntL L W l _ ≤ _
    refine cntL_le ?_
    split
    · rename_i hh
      unfold hitL at hh
      split at hh
      · rename_i w hw
        have := (List.getElem?_eq_some_iff.1 hw).1
        omega
      · cases hh
    · exact h
theorem cntL_hit : ∀ {l : List VxD} {n : Nat}, (∃ v ∈ l, hitL L W n v = true) → n + 1 ≤ cntL L W l n
  | [], _, ⟨_, h, _⟩ => by cases h
  | v :: l, n, ⟨u, hu, hh⟩ => by
    show n + 1 ≤ cntL L W l _
    by_cases e : hitL L W n v = true
    · rw [if_pos e]
      exact cntL_ge
    · rw [if_neg e]
      rcases List.mem_cons.1 hu with rfl | hu
      · exact absurd hh e
      · exact cntL_hit ⟨u, hu, hh⟩
/-- All committed leaders are met, one after the other. -/
theorem cntL_all (hs : sortedV g) (hp : W.Pairwise (· < ·)) (hl : ∀ w ∈ W, 0 < w ∧ hasV g L w = true) : cntL L W (ordX g L W) 0 = W.length := by
  have key : ∀ (W2 W1 : List Nat) (n : Nat), W1 ++ W2 = W → W1.length ≤ n → n ≤ W.length → cntL L W (W2.flatMap (blkX g L W)) n = W.length := by
    intro W2
    induction W2 with
    | nil =>
      intro W1 n e h1 h2
      rw [List.append_nil] at e
      subst e
      show n = _
      omega
    | cons w W2 ih =>
      intro W1 n e h1 h2
      have hw : w ∈ W := by rw [← e]; simp
      rw [List.flatMap_cons, cntL_app]
      refine ih (W1 ++ [w]) _ (by rw [← e]; simp) ?_ (cntL_le h2)
      rw [List.length_append, List.length_singleton]
      by_cases e2 : n = W1.length
      · subst e2
        refine cntL_hit ?_
        obtain ⟨i, hi⟩ := has_lead (hl w hw).2
        obtain ⟨v, hv, hr, ha, _⟩ := lead_at hi
        refine ⟨v, blkX_mem.2 ⟨i, hv, (wv_lead hs hp hw hi).1⟩, ?_⟩
        have hwn : W[W1.length]? = some w := by rw [← e]; simp
        unfold hitL
        rw [hwn]
        exact decide_eq_true ⟨hr, ha⟩
      · exact Nat.le_trans (by omega) cntL_ge
  exact key W [] 0 rfl (Nat.zero_le _) (Nat.zero_le _)
end Go.Proofs.YtkabnbjlglippaaGreatDoor
