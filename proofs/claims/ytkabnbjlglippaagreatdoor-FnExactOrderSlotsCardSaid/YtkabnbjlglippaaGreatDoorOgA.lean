/-
The order, by the reference.
No conditions.
-/
import Derived.Test.YtkabnbjlglippaaGreatDoorPlB
import Derived.Test.YtkabnbjlglippaaGreatDoorWgX
namespace Go.Proofs.YtkabnbjlglippaaGreatDoor
open Go Go.Vc
set_option maxHeartbeats 4000000
set_option maxRecDepth 10000
variable {g : List VxD} {L : List Int} {W : List Nat}
noncomputable def wvI (g : List VxD) (L : List Int) (W : List Nat) : List Int := (List.range g.length).map fun k => (wvV g L W k : Int)
theorem wvI_len : (wvI g L W).length = g.length := by simp [wvI]
theorem wvI_get {k : Nat} (hk : k < g.length) : (wvI g L W)[k]? = some (wvV g L W k : Int) := by
  unfold wvI
  rw [List.getElem?_map, List.getElem?_range hk]
  rfl
theorem wvI_nil : wvI g L [] = List.replicate g.length 0 := by
  unfold wvI
  apply List.ext_getElem?
  intro i
  by_cases hi : i < g.length
  · rw [List.getElem?_map, List.getElem?_range hi, List.getElem?_replicate, if_pos hi]
    rfl
  · rw [List.getElem?_eq_none (by simp; omega), List.getElem?_eq_none (by simp; omega)]
theorem wv_snoc {n w : Nat} (hn : W[n]? = some w) (k : Nat) : wvV g L (W.take (n + 1)) k = if wvV g L (W.take n) k = 0 ∧ selV g L w k = true ∧ (∀ x ∈ W.take n, 0 < x) then w else wvV g L (W.take (n + 1)) k := by
  split
  · rename_i h
    obtain ⟨h1, h2, h3⟩ := h
    have hnone : (W.take n).find? (fun x => selV g L x k) = none := by
      cases e : (W.take n).find? (fun x => selV g L x k) with
      | none => rfl
      | some y =>
        have hm := List.mem_of_find?_eq_some e
        have e2 : wvV g L (W.take n) k = y := by unfold wvV; rw [e]
        have := h3 y hm
        omega
    unfold wvV
    rw [List.take_add_one, hn, List.find?_append, hnone]
    simp [h2]
  · rfl
theorem wv_keep {n w : Nat} (hn : W[n]? = some w) {k : Nat} (h : wvV g L (W.take n) k ≠ 0 ∨ selV g L w k = false) : wvV g L (W.take (n + 1)) k = wvV g L (W.take n) k := by
  unfold wvV at *
  rw [List.take_add_one, hn, List.find?_append]
  cases e : (W.take n).find? (fun x => selV g L x k) with
  | some y => rfl
  | none =>
    rw [e] at h
    rcases h with h | h
    · exact absurd rfl h
    · simp [h]
/-- While the n-th wave is looked at, the first k vertices. -/
noncomputable def wvM (g : List VxD) (L : List Int) (W : List Nat) (n k : Nat) : List Int := (List.range g.length).map fun j => if j < k then (wvV g L (W.take (n + 1)) j : Int) else (wvV g L (W.take n) j : Int)
theorem wvM_len {n k : Nat} : (wvM g L W n k).length = g.length := by simp [wvM]
theorem wvM_at {n k j : Nat} (hj : j < g.length) : (wvM g L W n k)[j]? = some (if j < k then (wvV g L (W.take (n + 1)) j : Int) else (wvV g L (W.take n) j : Int)) := by
  unfold wvM
  rw [List.getElem?_map, List.getElem?_range hj]
  rfl
theorem wvM_get {n k : Nat} (hk : k < g.length) : (wvM g L W n k)[k]? = some (wvV g L (W.take n) k : Int) := by
  rw [wvM_at hk, if_neg (by omega)]
theorem wvM_start {n : Nat} : wvM g L W n 0 = wvI g L (W.take n) := by
  unfold wvM wvI
  simp
theorem wvM_end {n k : Nat} (hk : g.length ≤ k) : wvM g L W n k = wvI g L (W.take (n + 1)) := by
  apply List.ext_getElem?
  intro j
  by_cases hj : j < g.length
  · rw [wvM_at hj, wvI_get hj, if_pos (by omega)]
  · rw [List.getElem?_eq_none (by rw [wvM_len]; omega), List.getElem?_eq_none (by rw [wvI_len]; omega)]
theorem wvM_step {n k : Nat} (hk : k < g.length) : wvM g L W n (k + 1) = (wvM g L W n k).set k (wvV g L (W.take (n + 1)) k : Int) := by
  apply List.ext_getElem?
  intro j
  by_cases hj : j < g.length
  · rw [wvM_at hj, List.getElem?_set]
    by_cases e : k = j
    · subst e
      rw [if_pos (by omega), if_pos rfl, if_pos (by rw [wvM_len]; exact hk)]
    · rw [if_neg e, wvM_at hj]
      by_cases h1 : j < k
      · rw [if_pos h1, if_pos (by omega)]
      · rw [if_neg h1, if_neg (by omega)]
  · rw [List.getElem?_eq_none (by rw [wvM_len]; omega), List.getElem?_eq_none (by rw [List.length_set, wvM_len]; omega)]
theorem wvM_same {n k : Nat} (hk : k < g.length) (h : wvV g L (W.take (n + 1)) k = wvV g L (W.take n) k) : wvM g L W n (k + 1) = wvM g L W n k := by
  rw [wvM_step hk, h]
  have := wvM_get (g := g) (L := L) (W := W) (n := n) hk
  obtain ⟨h1, h2⟩ := List.getElem?_eq_some_iff.1 this
  rw [← h2]
  exact List.set_getElem_self h1
theorem natI_get {l : List Nat} {n w : Nat} (hw : l[n]? = some w) : (natI l)[((n : Nat) : Int).toNat]? = some (w : Int) := by
  show (l.map _)[n]? = _
  rw [List.getElem?_map, hw]
  rfl
theorem sel_at {w i k : Nat} (hi : leadV g L w = some i) (hk : k < g.length) : selV g L w k = true ↔ Reach g i k ∧ 2 * (w : Int) - 7 ≤ (gAt g k).r := by
  rw [sel_iff]
  constructor
  · rintro ⟨j, v, h1, h2, h3, h4⟩
    rw [hi] at h1
    cases h1
    rw [gAt_of h2]
    exact ⟨h3, h4⟩
  · rintro ⟨h1, h2⟩
    exact ⟨i, _, hi, gAt_get hk, h1, h2⟩
noncomputable def c_spec_l22Waves : Con := ⟨1, 0, false, fun xs hs _ K => match xs with
  | [.ints c, .sl 4 rows, .ints L] => hs = [] ∧ ∃ g : List VxD, rows = g.map VxD.row ∧ gV c g = true ∧ g.length < 2000000 ∧ (∀ v ∈ g, v.p.length < 2000000) ∧ L.length ≤ 15 ∧ K (.own 0) [.iarr (wvI g L (outV c g L))] []
  | _ => False⟩
theorem k_spec_l22Waves : Keeps' Tryz.prog 68 c_spec_l22Waves := by
  refine keeps_of_vc mix TyT_ok (cok_cons k_spec_l21Waves Tryz.func92 rfl rfl (cok_cons k_spec_l21Leader Tryz.func94 rfl rfl (cok_cons k_spec_l11Past Tryz.func93 rfl rfl cok_nil))) Tryz.func68 rfl rfl rfl ?_
  intro aargs hs Fs K h
  simp only [c_spec_l22Waves] at h
  split at h
  case h_2 => exact h.elim
  rename_i c rows L
  obtain ⟨rfl, g, rfl, hv, hg, hp, hL, h⟩ := h
  have hlen : (g.map VxD.row).length = g.length := by simp
  repeat' (first|((conv=>whnf); (first|refine brK_dec (fun _=>?_) (fun _=>?_)|refine brK_ndec (fun _=>?_) (fun _=>?_)|refine brK_not (fun _=>?_) (fun _=>?_)|refine brK_in (fun _=>?_) (fun _=>?_)|refine And.intro (by first|exact rfl|exact (by simp; omega)|exact ⟨_,rfl,rfl⟩|exact ⟨rfl,rfl,rfl⟩|exact of_decide_eq_true rfl|exact trivial|assumption|omega|(show (_ ≤ _ ∧ _ ≤ _); omega)|(simp; omega)|exact ⟨by first|omega|(simp; omega),_,rfl,rfl⟩) ?_|refine Quo.l (And.intro (by first|exact rfl|exact (by simp; omega)|assumption|omega|(simp; omega)) ?_)|refine Quo.r (And.intro (by omega) ?_)|refine Both.mk ?_ ?_|refine Exists.intro _ (And.intro rfl ?_)|refine rep_in ?_|refine opt_use (by assumption) ?_|refine vrow_use (by assumption) ?_|refine vrow_in (fun _ _=>?_)|refine brow_use (by assumption) ?_|refine brow_in (fun _ _=>?_)|refine fun _=>?_))|exact rfl)
  have hasc := out_asc (c := c) (g := g) (L := L)
  have hmem : ∀ w ∈ outV c g L, 0 < w ∧ w ≤ L.length ∧ hasV g L w = true := fun w hw => out_mem hw
  have hW15 : (outV c g L).length ≤ 15 := by
    have := (wav_len (c := c) (g := g) (L := L) (n := L.length)).1
    have e : (wavL c g L L.length).1 = outV c g L := rfl
    rw [e] at this
    omega
  generalize outV c g L = W at h hasc hmem hW15 ⊢
  have hWl : (natI W).length = W.length := by simp
  refine loop_in (ι := Nat) (fun n => mkS 74 [(0, .ints c), (1, .sl 4 (g.map VxD.row)), (2, .ints L), (7, .own 0), (8, .own 1), (9, I n)] [.iarr (wvI g L (W.take n)), .iarr (natI W)] Fs)
    (fun n => n ≤ W.length) (fun n => W.length - n) 0 [0, 1] (Nat.zero_le _) ?_ ?_
  · have e0 : wvI g L (W.take 0) = List.replicate (g.map VxD.row).length 0 := by rw [List.take_zero, wvI_nil, hlen]
    repeat' (first|((conv=>whnf); (first|refine brK_dec (fun _=>?_) (fun _=>?_)|refine brK_ndec (fun _=>?_) (fun _=>?_)|refine brK_not (fun _=>?_) (fun _=>?_)|refine brK_in (fun _=>?_) (fun _=>?_)|refine And.intro (by first|exact rfl|exact e0|exact ⟨_,rfl,rfl⟩|exact ⟨rfl,rfl,rfl⟩|exact of_decide_eq_true rfl|exact trivial|assumption|omega|(show (_ ≤ _ ∧ _ ≤ _); omega)|(simp; omega)|exact ⟨by first|omega|(simp; omega),_,rfl,rfl⟩) ?_|refine Quo.l (And.intro (by first|exact rfl|exact e0|assumption|omega|(simp; omega)) ?_)|refine Quo.r (And.intro (by omega) ?_)|refine Both.mk ?_ ?_|refine Exists.intro _ (And.intro rfl ?_)|refine rep_in ?_|refine opt_use (by assumption) ?_|refine vrow_use (by assumption) ?_|refine vrow_in (fun _ _=>?_)|refine brow_use (by assumption) ?_|refine brow_in (fun _ _=>?_)|refine fun _=>?_))|exact rfl)
  intro n hn
  dsimp only at hn ⊢
  have hil := wvI_len (g := g) (L := L) (W := W.take n)
  rcases Nat.lt_or_ge n W.length with hnl | hnl
  rotate_left
  · obtain rfl : n = W.length := by omega
    rw [List.take_length]
    repeat' (first|((conv=>whnf); (first|refine brK_dec (fun _=>?_) (fun _=>?_)|refine brK_ndec (fun _=>?_) (fun _=>?_)|refine brK_not (fun _=>?_) (fun _=>?_)|refine brK_in (fun _=>?_) (fun _=>?_)|refine And.intro (by first|exact rfl|exact ⟨_,rfl,rfl⟩|exact ⟨rfl,rfl,rfl⟩|exact of_decide_eq_true rfl|exact trivial|assumption|omega|(show (_ ≤ _ ∧ _ ≤ _); omega)|(simp; omega)|exact ⟨by first|omega|(simp; omega),_,rfl,rfl⟩) ?_|refine Quo.l (And.intro (by first|exact rfl|assumption|omega|(simp; omega)) ?_)|refine Quo.r (And.intro (by omega) ?_)|refine Both.mk ?_ ?_|refine Exists.intro _ (And.intro rfl ?_)|refine rep_in ?_|refine opt_use (by assumption) ?_|refine vrow_use (by assumption) ?_|refine vrow_in (fun _ _=>?_)|refine brow_use (by assumption) ?_|refine brow_in (fun _ _=>?_)|refine fun _=>?_))|exact rfl)
    · omega
    · exact h
  obtain ⟨w, hw⟩ : ∃ w, W[n]? = some w := ⟨_, List.getElem?_eq_getElem hnl⟩
  have hnw := natI_get hw
  obtain ⟨w0, w1, w2⟩ := hmem w (List.mem_of_getElem? hw)
  have w15 : w ≤ 15 := by omega
  obtain ⟨i, hi⟩ := has_lead w2
  have hil2 : leadI g L w = i ∧ i < g.length := by
    rcases lead_cases g L (n := w) w0 w1 with ⟨j, e1, e2, e3⟩ | ⟨e1, e2⟩
    · rw [hi] at e1
      cases e1
      exact ⟨e2, e3⟩
    · rw [hi] at e1
      cases e1
  have hos : ∀ s, some i = some s → s < g.length := fun s hs => by cases hs; exact hil2.2
  repeat' (first|((conv=>whnf); (first|refine Exists.intro w (And.intro rfl ?_)|refine Exists.intro c (And.intro hv (And.intro hg (And.intro hp (Exists.intro (some i) (And.intro hil2.1 (And.intro hos ?_))))))|refine brK_dec (fun _=>?_) (fun _=>?_)|refine brK_ndec (fun _=>?_) (fun _=>?_)|refine brK_not (fun _=>?_) (fun _=>?_)|refine brK_in (fun _=>?_) (fun _=>?_)|refine And.intro (by first|exact rfl|exact ⟨_,rfl,rfl⟩|exact ⟨rfl,rfl,rfl⟩|exact of_decide_eq_true rfl|exact trivial|assumption|omega|(show (_ ≤ _ ∧ _ ≤ _); omega)|(simp; omega)|exact ⟨by first|omega|(simp; omega),_,rfl,rfl⟩) ?_|refine Quo.l (And.intro (by first|exact rfl|assumption|omega|(simp; omega)) ?_)|refine Quo.r (And.intro (by omega) ?_)|refine Both.mk ?_ ?_|refine Exists.intro _ (And.intro rfl ?_)|refine rep_in ?_|refine opt_use (by assumption) ?_|refine vrow_use (by assumption) ?_|refine vrow_in (fun _ _=>?_)|refine brow_use (by assumption) ?_|refine brow_in (fun _ _=>?_)|refine fun _=>?_))|exact rfl)
  rotate_right
  · omega
  refine loop_in (ι := Nat) (fun k => mkS 74 [(0, .ints c), (1, .sl 4 (g.map VxD.row)), (2, .ints L), (7, .own 0), (8, .own 1), (9, I n), (10, .own 2), (11, I k)] [.iarr (wvM g L W n k), .iarr (natI W), .arr 1 (boolRows (pastV g i))] Fs)
    (fun k => k ≤ g.length) (fun k => g.length - k) 0 [0, 1, 2] (Nat.zero_le _) ?_ ?_
  · repeat' (first|((conv=>whnf); (first|refine brK_dec (fun _=>?_) (fun _=>?_)|refine brK_ndec (fun _=>?_) (fun _=>?_)|refine brK_not (fun _=>?_) (fun _=>?_)|refine brK_in (fun _=>?_) (fun _=>?_)|refine And.intro (by first|exact rfl|exact (wvM_start)|exact ⟨_,rfl,rfl⟩|exact ⟨rfl,rfl,rfl⟩|exact of_decide_eq_true rfl|exact trivial|assumption|omega|(show (_ ≤ _ ∧ _ ≤ _); omega)|(simp; omega)|exact ⟨by first|omega|(simp; omega),_,rfl,rfl⟩) ?_|refine Quo.l (And.intro (by first|exact rfl|exact (wvM_start)|assumption|omega|(simp; omega)) ?_)|refine Quo.r (And.intro (by omega) ?_)|refine Both.mk ?_ ?_|refine Exists.intro _ (And.intro rfl ?_)|refine rep_in ?_|refine opt_use (by assumption) ?_|refine vrow_use (by assumption) ?_|refine vrow_in (fun _ _=>?_)|refine brow_use (by assumption) ?_|refine brow_in (fun _ _=>?_)|refine fun _=>?_))|exact rfl)
  intro k hk
  dsimp only at hk ⊢
  have hml := wvM_len (g := g) (L := L) (W := W) (n := n) (k := k)
  have hpl := past_len (g := g) (s := i)
  have hbl : (boolRows (pastV g i)).length = g.length := by simp [hpl]
  rcases Nat.lt_or_ge k g.length with hkl | hkl
  · obtain ⟨v, hv1⟩ : ∃ v, g[((k : Nat) : Int).toNat]? = some v := ⟨_, List.getElem?_eq_getElem hkl⟩
    obtain ⟨b, hb⟩ : ∃ b, (pastV g i)[((k : Nat) : Int).toNat]? = some b := ⟨_, List.getElem?_eq_getElem (by rw [hpl]; exact hkl)⟩
    have hm := wvM_get (g := g) (L := L) (W := W) (n := n) hkl
    have hm2 : (wvM g L W n k)[((k : Nat) : Int).toNat]? = some (wvV g L (W.take n) k : Int) := hm
    have hgv : gAt g k = v := gAt_of hv1
    have hr := (vx_out (gV_cell hv hv1).1).1
    have hsel := sel_at hi hkl
    rw [hgv] at hsel
    have hpast := past_get hb
    have hno : ∀ {y : Bool}, (y = true → False) → y = false := fun {y} h => by cases y with | false => rfl | true => exact (h rfl).elim
    repeat' (first|((conv=>whnf); (first|refine draw_plan (id := 10) [] [] (.take 0 (.take 1 (.take 2 (.take 3 (.take 4 (.take 5 (.take 6 (.take 7 (.take 8 (.take 9 (.take 10 (.take 11 (.take 12 (.take 13 (.take 14 (.take 15 (.take 16 (.take 17 (.take 18 (.take 19 (.take 20 (.take 21 (.take 22 (.take 23 (.take 24 (.take 25 .done)))))))))))))))))))))))))) (by kernel_rfl) (by kernel_rfl) ?_|refine brK_dec (fun _=>?_) (fun _=>?_)|refine brK_ndec (fun _=>?_) (fun _=>?_)|refine brK_not (fun _=>?_) (fun _=>?_)|refine brK_in (fun _=>?_) (fun _=>?_)|refine And.intro (by first|exact rfl|exact ⟨_,rfl,rfl⟩|exact ⟨rfl,rfl,rfl⟩|exact of_decide_eq_true rfl|exact trivial|assumption|omega|(show (_ ≤ _ ∧ _ ≤ _); omega)|(simp; omega)|exact ⟨by first|omega|(simp; omega),_,rfl,rfl⟩) ?_|refine Quo.l (And.intro (by first|exact rfl|assumption|omega|(simp; omega)) ?_)|refine Quo.r (And.intro (by omega) ?_)|refine Both.mk ?_ ?_|refine Exists.intro _ (And.intro rfl ?_)|refine rep_in ?_|refine opt_use (by assumption) ?_|refine vrow_use (by assumption) ?_|refine vrow_in (fun _ _=>?_)|refine brow_use (by assumption) ?_|refine brow_in (fun _ _=>?_)|refine fun _=>?_))|exact rfl)
    · rename_i _ hbt hz hrr
      have e0 : wvV g L (W.take (n + 1)) k = w := by
        rw [wv_snoc hw, if_pos ⟨by omega, hsel.2 ⟨hpast.1 hbt, by omega⟩, fun x hx => (hmem x (List.mem_of_mem_take hx)).1⟩]
      have e1 : wvM g L W n (k + 1) = (wvM g L W n k).set k (w : Int) := by rw [wvM_step hkl, e0]
      refine ⟨k + 1, [0, 1, 2], by omega, by omega, ?_⟩
      repeat' (first|((conv=>whnf); (first|refine brK_dec (fun _=>?_) (fun _=>?_)|refine brK_ndec (fun _=>?_) (fun _=>?_)|refine brK_not (fun _=>?_) (fun _=>?_)|refine brK_in (fun _=>?_) (fun _=>?_)|refine And.intro (by first|exact rfl|exact e1|exact ⟨_,rfl,rfl⟩|exact ⟨rfl,rfl,rfl⟩|exact of_decide_eq_true rfl|exact trivial|assumption|omega|(show (_ ≤ _ ∧ _ ≤ _); omega)|(simp; omega)|exact ⟨by first|omega|(simp; omega),_,rfl,rfl⟩) ?_|refine Quo.l (And.intro (by first|exact rfl|exact e1|assumption|omega|(simp; omega)) ?_)|refine Quo.r (And.intro (by omega) ?_)|refine Both.mk ?_ ?_|refine Exists.intro _ (And.intro rfl ?_)|refine rep_in ?_|refine opt_use (by assumption) ?_|refine vrow_use (by assumption) ?_|refine vrow_in (fun _ _=>?_)|refine brow_use (by assumption) ?_|refine brow_in (fun _ _=>?_)|refine fun _=>?_))|exact rfl)
    · rename_i _ hbt hz hrr
      have e1 : wvM g L W n (k + 1) = wvM g L W n k := wvM_same hkl (wv_keep hw (.inr (hno fun hs => hrr (by have := (hsel.1 hs).2; omega))))
      refine ⟨k + 1, [0, 1, 2], by omega, by omega, ?_⟩
      repeat' (first|((conv=>whnf); (first|refine brK_dec (fun _=>?_) (fun _=>?_)|refine brK_ndec (fun _=>?_) (fun _=>?_)|refine brK_not (fun _=>?_) (fun _=>?_)|refine brK_in (fun _=>?_) (fun _=>?_)|refine And.intro (by first|exact rfl|exact e1|exact ⟨_,rfl,rfl⟩|exact ⟨rfl,rfl,rfl⟩|exact of_decide_eq_true rfl|exact trivial|assumption|omega|(show (_ ≤ _ ∧ _ ≤ _); omega)|(simp; omega)|exact ⟨by first|omega|(simp; omega),_,rfl,rfl⟩) ?_|refine Quo.l (And.intro (by first|exact rfl|exact e1|assumption|omega|(simp; omega)) ?_)|refine Quo.r (And.intro (by omega) ?_)|refine Both.mk ?_ ?_|refine Exists.intro _ (And.intro rfl ?_)|refine rep_in ?_|refine opt_use (by assumption) ?_|refine vrow_use (by assumption) ?_|refine vrow_in (fun _ _=>?_)|refine brow_use (by assumption) ?_|refine brow_in (fun _ _=>?_)|refine fun _=>?_))|exact rfl)
    · rename_i _ hbt hz
      have e1 : wvM g L W n (k + 1) = wvM g L W n k := wvM_same hkl (wv_keep hw (.inl (by omega)))
      refine ⟨k + 1, [0, 1, 2], by omega, by omega, ?_⟩
      repeat' (first|((conv=>whnf); (first|refine brK_dec (fun _=>?_) (fun _=>?_)|refine brK_ndec (fun _=>?_) (fun _=>?_)|refine brK_not (fun _=>?_) (fun _=>?_)|refine brK_in (fun _=>?_) (fun _=>?_)|refine And.intro (by first|exact rfl|exact e1|exact ⟨_,rfl,rfl⟩|exact ⟨rfl,rfl,rfl⟩|exact of_decide_eq_true rfl|exact trivial|assumption|omega|(show (_ ≤ _ ∧ _ ≤ _); omega)|(simp; omega)|exact ⟨by first|omega|(simp; omega),_,rfl,rfl⟩) ?_|refine Quo.l (And.intro (by first|exact rfl|exact e1|assumption|omega|(simp; omega)) ?_)|refine Quo.r (And.intro (by omega) ?_)|refine Both.mk ?_ ?_|refine Exists.intro _ (And.intro rfl ?_)|refine rep_in ?_|refine opt_use (by assumption) ?_|refine vrow_use (by assumption) ?_|refine vrow_in (fun _ _=>?_)|refine brow_use (by assumption) ?_|refine brow_in (fun _ _=>?_)|refine fun _=>?_))|exact rfl)
    · rename_i _ hbf
      have e1 : wvM g L W n (k + 1) = wvM g L W n k := wvM_same hkl (wv_keep hw (.inr (hno fun hs => by
        have := hpast.2 (hsel.1 hs).1
        rw [hbf] at this
        cases this)))
      refine ⟨k + 1, [0, 1, 2], by omega, by omega, ?_⟩
      repeat' (first|((conv=>whnf); (first|refine brK_dec (fun _=>?_) (fun _=>?_)|refine brK_ndec (fun _=>?_) (fun _=>?_)|refine brK_not (fun _=>?_) (fun _=>?_)|refine brK_in (fun _=>?_) (fun _=>?_)|refine And.intro (by first|exact rfl|exact e1|exact ⟨_,rfl,rfl⟩|exact ⟨rfl,rfl,rfl⟩|exact of_decide_eq_true rfl|exact trivial|assumption|omega|(show (_ ≤ _ ∧ _ ≤ _); omega)|(simp; omega)|exact ⟨by first|omega|(simp; omega),_,rfl,rfl⟩) ?_|refine Quo.l (And.intro (by first|exact rfl|exact e1|assumption|omega|(simp; omega)) ?_)|refine Quo.r (And.intro (by omega) ?_)|refine Both.mk ?_ ?_|refine Exists.intro _ (And.intro rfl ?_)|refine rep_in ?_|refine opt_use (by assumption) ?_|refine vrow_use (by assumption) ?_|refine vrow_in (fun _ _=>?_)|refine brow_use (by assumption) ?_|refine brow_in (fun _ _=>?_)|refine fun _=>?_))|exact rfl)
    · omega
  · have e1 : wvI g L (W.take (n + 1)) = wvM g L W n k := (wvM_end hkl).symm
    repeat' (first|((conv=>whnf); (first|refine brK_dec (fun _=>?_) (fun _=>?_)|refine brK_ndec (fun _=>?_) (fun _=>?_)|refine brK_not (fun _=>?_) (fun _=>?_)|refine brK_in (fun _=>?_) (fun _=>?_)|refine And.intro (by first|exact rfl|exact ⟨_,rfl,rfl⟩|exact ⟨rfl,rfl,rfl⟩|exact of_decide_eq_true rfl|exact trivial|assumption|omega|(show (_ ≤ _ ∧ _ ≤ _); omega)|(simp; omega)|exact ⟨by first|omega|(simp; omega),_,rfl,rfl⟩) ?_|refine Quo.l (And.intro (by first|exact rfl|assumption|omega|(simp; omega)) ?_)|refine Quo.r (And.intro (by omega) ?_)|refine Both.mk ?_ ?_|refine Exists.intro _ (And.intro rfl ?_)|refine rep_in ?_|refine opt_use (by assumption) ?_|refine vrow_use (by assumption) ?_|refine vrow_in (fun _ _=>?_)|refine brow_use (by assumption) ?_|refine brow_in (fun _ _=>?_)|refine fun _=>?_))|exact rfl)
    · omega
    refine ⟨n + 1, [0, 1], by omega, by omega, ?_⟩
    repeat' (first|((conv=>whnf); (first|refine brK_dec (fun _=>?_) (fun _=>?_)|refine brK_ndec (fun _=>?_) (fun _=>?_)|refine brK_not (fun _=>?_) (fun _=>?_)|refine brK_in (fun _=>?_) (fun _=>?_)|refine And.intro (by first|exact rfl|exact e1|exact ⟨_,rfl,rfl⟩|exact ⟨rfl,rfl,rfl⟩|exact of_decide_eq_true rfl|exact trivial|assumption|omega|(show (_ ≤ _ ∧ _ ≤ _); omega)|(simp; omega)|exact ⟨by first|omega|(simp; omega),_,rfl,rfl⟩) ?_|refine Quo.l (And.intro (by first|exact rfl|exact e1|assumption|omega|(simp; omega)) ?_)|refine Quo.r (And.intro (by omega) ?_)|refine Both.mk ?_ ?_|refine Exists.intro _ (And.intro rfl ?_)|refine rep_in ?_|refine opt_use (by assumption) ?_|refine vrow_use (by assumption) ?_|refine vrow_in (fun _ _=>?_)|refine brow_use (by assumption) ?_|refine brow_in (fun _ _=>?_)|refine fun _=>?_))|exact rfl)
noncomputable def c_spec_l22Order : Con := ⟨1, 0, false, fun xs hs _ K => match xs with
  | [.ints c, .sl 4 rows, .ints L] => hs = [] ∧ ∃ g : List VxD, rows = g.map VxD.row ∧ gV c g = true ∧ g.length < 2000000 ∧ (∀ v ∈ g, v.p.length < 2000000) ∧ L.length ≤ 15 ∧ K (.own 0) [.iarr (natI ((ordV g L (outV c g L)).map (·.1)))] []
  | _ => False⟩
/-- The waves 1 to n of the order. -/
noncomputable def ordT (g : List VxD) (L : List Int) (W : List Nat) (n : Nat) : List Nat := (List.range' 1 n).flatMap (blkW g L W)
theorem ordT_snoc {n : Nat} : ordT g L W (n + 1) = ordT g L W n ++ blkW g L W (n + 1) := by
  unfold ordT
  rw [List.range'_1_concat, List.flatMap_append]
  simp [Nat.add_comm]
theorem blkW_len {w : Nat} : (blkW g L W w).length ≤ g.length := by
  unfold blkW
  have := List.length_filter_le (fun k => wvV g L W k == w) (List.range g.length)
  simpa using this
theorem ordT_len : ∀ n, (ordT g L W n).length ≤ n * g.length
  | 0 => by simp [ordT]
  | n + 1 => by
    have h1 := ordT_len n
    have h2 := blkW_len (g := g) (L := L) (W := W) (w := n + 1)
    rw [ordT_snoc, List.length_append, Nat.add_mul]
    omega
/-- The first k of a wave's vertices. -/
noncomputable def blkT (g : List VxD) (L : List Int) (W : List Nat) (w k : Nat) : List Nat := (List.range k).filter fun j => wvV g L W j == w
theorem blkT_len {w k : Nat} : (blkT g L W w k).length ≤ k := by
  unfold blkT
  have := List.length_filter_le (fun k => wvV g L W k == w) (List.range k)
  simpa using this
theorem blkT_snoc {w k : Nat} : blkT g L W w (k + 1) = blkT g L W w k ++ if wvV g L W k = w then [k] else [] := by
  unfold blkT
  rw [List.range_succ, List.filter_append, List.filter_cons, List.filter_nil]
  by_cases e : wvV g L W k = w <;> simp [e]
theorem k_spec_l22Order : Keeps' Tryz.prog 50 c_spec_l22Order := by
  refine keeps_of_vc mix TyT_ok (cok_cons k_spec_l22Waves Tryz.func68 rfl rfl cok_nil) Tryz.func50 rfl rfl rfl ?_
  intro aargs hs Fs K h
  simp only [c_spec_l22Order] at h
  split at h
  case h_2 => exact h.elim
  rename_i c rows L
  obtain ⟨rfl, g, rfl, hv, hg, hp, hL, h⟩ := h
  have hlen : (g.map VxD.row).length = g.length := by simp
  have hasc := out_asc (c := c) (g := g) (L := L)
  have hmem : ∀ w ∈ outV c g L, 0 < w ∧ w ≤ L.length := fun w hw => ⟨(out_mem hw).1, (out_mem hw).2.1⟩
  have hfin := ord_idx (g := g) (L := L) (W := outV c g L) (n := L.length) hasc hmem
  repeat' (first|((conv=>whnf); (first|refine brK_dec (fun _=>?_) (fun _=>?_)|refine brK_ndec (fun _=>?_) (fun _=>?_)|refine brK_not (fun _=>?_) (fun _=>?_)|refine brK_in (fun _=>?_) (fun _=>?_)|refine And.intro (by first|exact rfl|exact ⟨_,rfl,rfl⟩|exact ⟨rfl,rfl,rfl⟩|exact of_decide_eq_true rfl|exact trivial|assumption|omega|(show (_ ≤ _ ∧ _ ≤ _); omega)|(simp; omega)|exact ⟨by first|omega|(simp; omega),_,rfl,rfl⟩) ?_|refine Quo.l (And.intro (by first|exact rfl|assumption|omega|(simp; omega)) ?_)|refine Quo.r (And.intro (by omega) ?_)|refine Both.mk ?_ ?_|refine Exists.intro _ (And.intro rfl ?_)|refine rep_in ?_|refine opt_use (by assumption) ?_|refine vrow_use (by assumption) ?_|refine vrow_in (fun _ _=>?_)|refine brow_use (by assumption) ?_|refine brow_in (fun _ _=>?_)|refine fun _=>?_))|exact rfl)
  generalize outV c g L = W at h hfin ⊢
  have hil := wvI_len (g := g) (L := L) (W := W)
  refine loop_in (ι := Nat) (fun n => mkS 39 [(0, .ints c), (1, .sl 4 (g.map VxD.row)), (2, .ints L), (7, .own 0), (8, .own 1), (9, I (n + 1))] [.iarr (natI (ordT g L W n)), .iarr (wvI g L W)] Fs)
    (fun n => n ≤ L.length) (fun n => L.length - n) 0 [0, 1] (Nat.zero_le _) ?_ ?_
  · repeat' (first|((conv=>whnf); (first|refine brK_dec (fun _=>?_) (fun _=>?_)|refine brK_ndec (fun _=>?_) (fun _=>?_)|refine brK_not (fun _=>?_) (fun _=>?_)|refine brK_in (fun _=>?_) (fun _=>?_)|refine And.intro (by first|exact rfl|exact ⟨_,rfl,rfl⟩|exact ⟨rfl,rfl,rfl⟩|exact of_decide_eq_true rfl|exact trivial|assumption|omega|(show (_ ≤ _ ∧ _ ≤ _); omega)|(simp; omega)|exact ⟨by first|omega|(simp; omega),_,rfl,rfl⟩) ?_|refine Quo.l (And.intro (by first|exact rfl|assumption|omega|(simp; omega)) ?_)|refine Quo.r (And.intro (by omega) ?_)|refine Both.mk ?_ ?_|refine Exists.intro _ (And.intro rfl ?_)|refine rep_in ?_|refine opt_use (by assumption) ?_|refine vrow_use (by assumption) ?_|refine vrow_in (fun _ _=>?_)|refine brow_use (by assumption) ?_|refine brow_in (fun _ _=>?_)|refine fun _=>?_))|exact rfl)
  intro n hn
  dsimp only at hn ⊢
  have htl := ordT_len (g := g) (L := L) (W := W) n
  have htl2 : n * g.length ≤ 15 * g.length := Nat.mul_le_mul_right _ (by omega)
  have hnl : (natI (ordT g L W n)).length = (ordT g L W n).length := by simp
  repeat' (first|((conv=>whnf); (first|refine brK_dec (fun _=>?_) (fun _=>?_)|refine brK_ndec (fun _=>?_) (fun _=>?_)|refine brK_not (fun _=>?_) (fun _=>?_)|refine brK_in (fun _=>?_) (fun _=>?_)|refine And.intro (by first|exact rfl|exact ⟨_,rfl,rfl⟩|exact ⟨rfl,rfl,rfl⟩|exact of_decide_eq_true rfl|exact trivial|assumption|omega|(show (_ ≤ _ ∧ _ ≤ _); omega)|(simp; omega)|exact ⟨by first|omega|(simp; omega),_,rfl,rfl⟩) ?_|refine Quo.l (And.intro (by first|exact rfl|assumption|omega|(simp; omega)) ?_)|refine Quo.r (And.intro (by omega) ?_)|refine Both.mk ?_ ?_|refine Exists.intro _ (And.intro rfl ?_)|refine rep_in ?_|refine opt_use (by assumption) ?_|refine vrow_use (by assumption) ?_|refine vrow_in (fun _ _=>?_)|refine brow_use (by assumption) ?_|refine brow_in (fun _ _=>?_)|refine fun _=>?_))|exact rfl)
  · refine loop_in (ι := Nat) (fun k => mkS 39 [(0, .ints c), (1, .sl 4 (g.map VxD.row)), (2, .ints L), (7, .own 0), (8, .own 1), (9, I (n + 1)), (10, I k)] [.iarr (natI (ordT g L W n ++ blkT g L W (n + 1) k)), .iarr (wvI g L W)] Fs)
      (fun k => k ≤ g.length) (fun k => g.length - k) 0 [0, 1] (Nat.zero_le _) ?_ ?_
    · repeat' (first|((conv=>whnf); (first|refine brK_dec (fun _=>?_) (fun _=>?_)|refine brK_ndec (fun _=>?_) (fun _=>?_)|refine brK_not (fun _=>?_) (fun _=>?_)|refine brK_in (fun _=>?_) (fun _=>?_)|refine And.intro (by first|exact rfl|exact (by simp [blkT])|exact ⟨_,rfl,rfl⟩|exact ⟨rfl,rfl,rfl⟩|exact of_decide_eq_true rfl|exact trivial|assumption|omega|(show (_ ≤ _ ∧ _ ≤ _); omega)|(simp; omega)|exact ⟨by first|omega|(simp; omega),_,rfl,rfl⟩) ?_|refine Quo.l (And.intro (by first|exact rfl|exact (by simp [blkT])|assumption|omega|(simp; omega)) ?_)|refine Quo.r (And.intro (by omega) ?_)|refine Both.mk ?_ ?_|refine Exists.intro _ (And.intro rfl ?_)|refine rep_in ?_|refine opt_use (by assumption) ?_|refine vrow_use (by assumption) ?_|refine vrow_in (fun _ _=>?_)|refine brow_use (by assumption) ?_|refine brow_in (fun _ _=>?_)|refine fun _=>?_))|exact rfl)
    intro k hk
    dsimp only at hk ⊢
    have hbl := blkT_len (g := g) (L := L) (W := W) (w := n + 1) (k := k)
    have hnl2 : (natI (ordT g L W n ++ blkT g L W (n + 1) k)).length = (ordT g L W n).length + (blkT g L W (n + 1) k).length := by simp
    rcases Nat.lt_or_ge k g.length with hkl | hkl
    · have hm : (wvI g L W)[((k : Nat) : Int).toNat]? = some (wvV g L W k : Int) := wvI_get hkl
      repeat' (first|((conv=>whnf); (first|refine brK_dec (fun _=>?_) (fun _=>?_)|refine brK_ndec (fun _=>?_) (fun _=>?_)|refine brK_not (fun _=>?_) (fun _=>?_)|refine brK_in (fun _=>?_) (fun _=>?_)|refine And.intro (by first|exact rfl|exact (by first|(show (_ + _) * 8 ≤ 140737488355328; simp; omega)|(simp; omega))|exact ⟨_,rfl,rfl⟩|exact ⟨rfl,rfl,rfl⟩|exact of_decide_eq_true rfl|exact trivial|assumption|omega|(show (_ ≤ _ ∧ _ ≤ _); omega)|(simp; omega)|exact ⟨by first|omega|(simp; omega),_,rfl,rfl⟩) ?_|refine Quo.l (And.intro (by first|exact rfl|exact (by first|(show (_ + _) * 8 ≤ 140737488355328; simp; omega)|(simp; omega))|assumption|omega|(simp; omega)) ?_)|refine Quo.r (And.intro (by omega) ?_)|refine Both.mk ?_ ?_|refine Exists.intro _ (And.intro rfl ?_)|refine rep_in ?_|refine opt_use (by assumption) ?_|refine vrow_use (by assumption) ?_|refine vrow_in (fun _ _=>?_)|refine brow_use (by assumption) ?_|refine brow_in (fun _ _=>?_)|refine fun _=>?_))|exact rfl)
      · rename_i _ e
        have e1 : natI (ordT g L W n ++ blkT g L W (n + 1) (k + 1)) = (natI (ordT g L W n ++ blkT g L W (n + 1) k)).take (natI (ordT g L W n ++ blkT g L W (n + 1) k)).length ++ [(k : Int)] := by
          rw [blkT_snoc, if_pos (by omega), List.take_length]
          simp
        refine ⟨k + 1, [0, 1], by omega, by omega, ?_⟩
        repeat' (first|((conv=>whnf); (first|refine brK_dec (fun _=>?_) (fun _=>?_)|refine brK_ndec (fun _=>?_) (fun _=>?_)|refine brK_not (fun _=>?_) (fun _=>?_)|refine brK_in (fun _=>?_) (fun _=>?_)|refine And.intro (by first|exact rfl|exact e1|exact ⟨_,rfl,rfl⟩|exact ⟨rfl,rfl,rfl⟩|exact of_decide_eq_true rfl|exact trivial|assumption|omega|(show (_ ≤ _ ∧ _ ≤ _); omega)|(simp; omega)|exact ⟨by first|omega|(simp; omega),_,rfl,rfl⟩) ?_|refine Quo.l (And.intro (by first|exact rfl|exact e1|assumption|omega|(simp; omega)) ?_)|refine Quo.r (And.intro (by omega) ?_)|refine Both.mk ?_ ?_|refine Exists.intro _ (And.intro rfl ?_)|refine rep_in ?_|refine opt_use (by assumption) ?_|refine vrow_use (by assumption) ?_|refine vrow_in (fun _ _=>?_)|refine brow_use (by assumption) ?_|refine brow_in (fun _ _=>?_)|refine fun _=>?_))|exact rfl)
      · rename_i _ e
        have e1 : natI (ordT g L W n ++ blkT g L W (n + 1) (k + 1)) = natI (ordT g L W n ++ blkT g L W (n + 1) k) := by
          rw [blkT_snoc, if_neg (by omega), List.append_nil]
        refine ⟨k + 1, [0, 1], by omega, by omega, ?_⟩
        repeat' (first|((conv=>whnf); (first|refine brK_dec (fun _=>?_) (fun _=>?_)|refine brK_ndec (fun _=>?_) (fun _=>?_)|refine brK_not (fun _=>?_) (fun _=>?_)|refine brK_in (fun _=>?_) (fun _=>?_)|refine And.intro (by first|exact rfl|exact e1|exact ⟨_,rfl,rfl⟩|exact ⟨rfl,rfl,rfl⟩|exact of_decide_eq_true rfl|exact trivial|assumption|omega|(show (_ ≤ _ ∧ _ ≤ _); omega)|(simp; omega)|exact ⟨by first|omega|(simp; omega),_,rfl,rfl⟩) ?_|refine Quo.l (And.intro (by first|exact rfl|exact e1|assumption|omega|(simp; omega)) ?_)|refine Quo.r (And.intro (by omega) ?_)|refine Both.mk ?_ ?_|refine Exists.intro _ (And.intro rfl ?_)|refine rep_in ?_|refine opt_use (by assumption) ?_|refine vrow_use (by assumption) ?_|refine vrow_in (fun _ _=>?_)|refine brow_use (by assumption) ?_|refine brow_in (fun _ _=>?_)|refine fun _=>?_))|exact rfl)
      · omega
    · obtain rfl : k = g.length := by omega
      have e1 : natI (ordT g L W (n + 1)) = natI (ordT g L W n ++ blkT g L W (n + 1) g.length) := by rw [ordT_snoc]; rfl
      repeat' (first|((conv=>whnf); (first|refine brK_dec (fun _=>?_) (fun _=>?_)|refine brK_ndec (fun _=>?_) (fun _=>?_)|refine brK_not (fun _=>?_) (fun _=>?_)|refine brK_in (fun _=>?_) (fun _=>?_)|refine And.intro (by first|exact rfl|exact ⟨_,rfl,rfl⟩|exact ⟨rfl,rfl,rfl⟩|exact of_decide_eq_true rfl|exact trivial|assumption|omega|(show (_ ≤ _ ∧ _ ≤ _); omega)|(simp; omega)|exact ⟨by first|omega|(simp; omega),_,rfl,rfl⟩) ?_|refine Quo.l (And.intro (by first|exact rfl|assumption|omega|(simp; omega)) ?_)|refine Quo.r (And.intro (by omega) ?_)|refine Both.mk ?_ ?_|refine Exists.intro _ (And.intro rfl ?_)|refine rep_in ?_|refine opt_use (by assumption) ?_|refine vrow_use (by assumption) ?_|refine vrow_in (fun _ _=>?_)|refine brow_use (by assumption) ?_|refine brow_in (fun _ _=>?_)|refine fun _=>?_))|exact rfl)
      · omega
      · omega
      refine ⟨n + 1, [0, 1], by omega, by omega, ?_⟩
      repeat' (first|((conv=>whnf); (first|refine brK_dec (fun _=>?_) (fun _=>?_)|refine brK_ndec (fun _=>?_) (fun _=>?_)|refine brK_not (fun _=>?_) (fun _=>?_)|refine brK_in (fun _=>?_) (fun _=>?_)|refine And.intro (by first|exact rfl|exact e1|exact ⟨_,rfl,rfl⟩|exact ⟨rfl,rfl,rfl⟩|exact of_decide_eq_true rfl|exact trivial|assumption|omega|(show (_ ≤ _ ∧ _ ≤ _); omega)|(simp; omega)|exact ⟨by first|omega|(simp; omega),_,rfl,rfl⟩) ?_|refine Quo.l (And.intro (by first|exact rfl|exact e1|assumption|omega|(simp; omega)) ?_)|refine Quo.r (And.intro (by omega) ?_)|refine Both.mk ?_ ?_|refine Exists.intro _ (And.intro rfl ?_)|refine rep_in ?_|refine opt_use (by assumption) ?_|refine vrow_use (by assumption) ?_|refine vrow_in (fun _ _=>?_)|refine brow_use (by assumption) ?_|refine brow_in (fun _ _=>?_)|refine fun _=>?_))|exact rfl)
  · obtain rfl : n = L.length := by omega
    rw [← hfin] at h
    exact h
end Go.Proofs.YtkabnbjlglippaaGreatDoor
