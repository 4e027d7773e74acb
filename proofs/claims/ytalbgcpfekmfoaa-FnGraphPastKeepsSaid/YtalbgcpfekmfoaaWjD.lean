/-
What a node depends on, by the program: a walk with a stack.
No conditions.
-/
import Derived.Test.YtalbgcpfekmfoaaWjH
namespace Go.Proofs.Ytalbgcpfekmfoaa
open Go Go.Vc
set_option maxHeartbeats 4000000
set_option maxRecDepth 10000
/-- The reader's walk while the parents of vertex i are looked at: those of the first k are marked. -/
structure Dfk (g : List VxD) (s : Nat) (b : List Bool) (st : List Nat) (i k : Nat) : Prop where
  len : b.length = g.length
  start : b[s]? = some true
  only : ∀ j, b[j]? = some true → Reach g s j
  stack : ∀ j ∈ st, b[j]? = some true
  closed : ∀ x, b[x]? = some true → x ∉ st → x ≠ i → ∀ j ∈ parI g x, b[j]? = some true
  here : b[i]? = some true
  mark : ∀ (m : Nat) j, m < k → (parI g i)[m]? = some j → b[j]? = some true
theorem dfk_start {g : List VxD} {s : Nat} {b : List Bool} {st : List Nat} {i : Nat} (h : Dfs g s b (st ++ [i])) : Dfk g s b st i 0 := by
  refine ⟨h.len, h.start, h.only, fun j hj => h.stack j (List.mem_append_left _ hj), fun x hx hn hi => h.closed x hx (by simp [hn, hi]), h.stack i (by simp), fun m j hm => absurd hm (by omega)⟩
theorem dfk_seen {g : List VxD} {s : Nat} {b : List Bool} {st : List Nat} {i k j : Nat} (h : Dfk g s b st i k) (hj : (parI g i)[k]? = some j) (hb : b[j]? = some true) : Dfk g s b st i (k + 1) := by
  refine ⟨h.len, h.start, h.only, h.stack, h.closed, h.here, fun m x hm hx => ?_⟩
  rcases Nat.lt_or_ge m k with h1 | h1
  · exact h.mark m x h1 hx
  · obtain rfl : m = k := by omega
    rw [hj] at hx
    cases hx
    exact hb
theorem dfk_new {g : List VxD} {s : Nat} {b : List Bool} {st : List Nat} {i k j : Nat} (h : Dfk g s b st i k) (hj : (parI g i)[k]? = some j) (hl : j < g.length) : Dfk g s (b.set j true) (st ++ [j]) i (k + 1) := by
  have hjs : (b.set j true)[j]? = some true := by simp [h.len, hl]
  refine ⟨by rw [List.length_set]; exact h.len, set_true h.start, fun x hx => ?_, fun x hx => ?_, fun x hx hn hi y hy => ?_, set_true h.here, fun m x hm hx => ?_⟩
  · rcases set_out hx with hx | rfl
    · exact h.only x hx
    · exact .step (h.only i h.here) (List.mem_of_getElem? hj)
  · rcases List.mem_append.1 hx with hx | hx
    · exact set_true (h.stack x hx)
    · rw [List.mem_singleton.1 hx]; exact hjs
  · rcases set_out hx with hx | rfl
    · exact set_true (h.closed x hx (fun hm => hn (List.mem_append_left _ hm)) hi y hy)
    · exact absurd (by simp) hn
  · rcases Nat.lt_or_ge m k with h1 | h1
    · exact set_true (h.mark m x h1 hx)
    · obtain rfl : m = k := by omega
      rw [hj] at hx
      cases hx
      exact hjs
theorem dfk_end {g : List VxD} {s : Nat} {b : List Bool} {st : List Nat} {i k : Nat} (h : Dfk g s b st i k) (hk : (parI g i).length ≤ k) : Dfs g s b st := by
  refine ⟨h.len, h.start, h.only, h.stack, fun x hx hn j hj => ?_⟩
  by_cases e : x = i
  · subst e
    obtain ⟨m, hm⟩ := List.mem_iff_getElem?.1 hj
    exact h.mark m j (by have := (List.getElem?_eq_some_iff.1 hm).1; omega) hm
  · exact h.closed x hx hn e j hj
def cntF (b : List Bool) : Nat := (b.filter fun x => !x).length
theorem cntF_set : ∀ {b : List Bool} {j : Nat}, b[j]? = some false → cntF (b.set j true) + 1 = cntF b
  | [], _, h => by simp at h
  | x :: b, 0, h => by
    simp at h
    subst h
    simp [cntF]
  | x :: b, j + 1, h => by
    have := cntF_set (b := b) (j := j) (by simpa using h)
    cases x <;> simp [cntF] at this ⊢ <;> omega
theorem cntF_le (b : List Bool) : cntF b ≤ b.length := List.length_filter_le _ _
def idxT (b : List Bool) : List Nat := (List.range b.length).filter fun j => b.getD j false
def idxP (b : List Bool) (i : Nat) : List Nat := (List.range i).filter fun j => b.getD j false
theorem idxP_snoc {b : List Bool} {i : Nat} {x : Bool} (hx : b[i]? = some x) : idxP b (i + 1) = idxP b i ++ if x = true then [i] else [] := by
  unfold idxP
  rw [List.range_succ, List.filter_append]
  have : b.getD i false = x := by rw [List.getD_eq_getElem?_getD, hx]; rfl
  rw [List.filter_cons, List.filter_nil, this]
theorem idxP_len {b : List Bool} {i : Nat} : (idxP b i).length ≤ i := by
  have := List.length_filter_le (fun j => b.getD j false) (List.range i)
  simpa [idxP] using this
theorem par_bound {g : List VxD} {i : Nat} : ∀ k ∈ parI g i, k < g.length := by
  intro k hk
  unfold parI at hk
  split at hk
  · obtain ⟨a, _, ha⟩ := List.mem_filterMap.1 hk
    obtain ⟨u, hu, _⟩ := find_out ha
    exact (List.getElem?_eq_some_iff.1 hu).1
  · cases hk
theorem nrow_in {b : Nat} {g : List VxD} {l : List Nat} {n : Nat} {P : List AV → Prop} (hl : ∀ k ∈ l, k < g.length) (h : ∀ j v, l[n]? = some j → g[j]? = some v → j < g.length → P [.rp (b + j) 0 0]) : ∀ e, (rpRows b l)[n]? = some e → P e :=
  rprow_in fun j hj => h j _ hj (List.getElem?_eq_getElem (hl j (List.mem_of_getElem? hj))) (hl j (List.mem_of_getElem? hj))
theorem mem_bound {g : List VxD} {s : Nat} {b : List Bool} {st : List Nat} (h : Dfs g s b st) : ∀ k ∈ st, k < g.length := fun k hk => by
  have := (List.getElem?_eq_some_iff.1 (h.stack k hk)).1
  rw [← h.len]
  exact this
theorem last_get {l : List Nat} {i j n : Nat} (h : (l ++ [i])[n]? = some j) (hn : n = l.length) : j = i := by
  subst hn
  simpa using h.symm
theorem last_get2 {l e : List Nat} {i j n : Nat} (h : (l ++ [i] ++ e)[n]? = some j) (hn : n = l.length) : j = i := by
  subst hn
  rw [List.append_assoc, List.getElem?_append_right (Nat.le_refl _)] at h
  simpa using h.symm
theorem rows_take {b : Nat} {l e : List Nat} {j : Nat} {X : List (List AV)} (h : X = [[.rp (b + j) 0 0]]) : rpRows b (l ++ [j]) = (rpRows b (l ++ e)).take l.length ++ X := by
  rw [h]
  simp [rpRows, List.map_append]
theorem parI_len {g : List VxD} {i : Nat} {v : VxD} (hv : g[i]? = some v) : (parI g i).length ≤ v.p.length := by
  unfold parI
  rw [hv]
  exact List.length_filterMap_le _ _
def c_impl_graph_past : Con := ⟨1, 0, false, fun xs hs Fs K => match xs with
  | [.ro (.ints c :: .sl 1 rows :: _), .rp f 0 0] => hs = [] ∧ ∃ bb g s, rows = rpRows bb (List.range g.length) ∧ f = bb + s ∧ hasG Fs bb g ∧ gV c g = true ∧ s < g.length ∧ g.length < 2000000 ∧ (∀ v ∈ g, v.p.length < 2000000) ∧ K (.own 0) [.iarr (natI (idxT (pastV g s)))] []
  | _ => False⟩
theorem k_impl_graph_past : Keeps' Try.prog 51 c_impl_graph_past := by
  refine keeps_of_vc mix TyT_ok cok_nil Try.func51 rfl rfl rfl ?_
  intro aargs hs Fs K h
  simp only [c_impl_graph_past] at h
  split at h
  case h_2 => exact h.elim
  rename_i c rows pl f
  obtain ⟨rfl, bb, g, s, rfl, rfl, hG, hgv, hs, hgl, hp, h⟩ := h
  have hG2 : hasG (Fs ++ ([] : List Fam)) bb g := hasG_app hG
  have hlr : (rpRows bb (List.range g.length)).length = g.length := by simp
  have hg217 := gV_len hgv
  obtain ⟨v0, hv0⟩ : ∃ v0, g[s]? = some v0 := ⟨_, List.getElem?_eq_getElem hs⟩
  repeat' (first|((conv=>whnf); (first|refine brK_dec (fun _=>?_) (fun _=>?_)|refine brK_ndec (fun _=>?_) (fun _=>?_)|refine brK_not (fun _=>?_) (fun _=>?_)|refine brK_in (fun _=>?_) (fun _=>?_)|refine And.intro (by first|exact rfl|exact (by simp; omega)|exact ⟨_,rfl,rfl⟩|exact ⟨rfl,rfl,rfl⟩|exact of_decide_eq_true rfl|exact trivial|assumption|omega|(show (_ ≤ _ ∧ _ ≤ _); omega)|(simp; omega)|exact ⟨by first|omega|(simp; omega),_,rfl,rfl⟩) ?_|refine Quo.l (And.intro (by first|exact rfl|exact (by simp; omega)|assumption|omega|(simp; omega)) ?_)|refine Quo.r (And.intro (by omega) ?_)|refine Both.mk ?_ ?_|refine Exists.intro _ (And.intro rfl ?_)|refine rep_in ?_|refine opt_use (by assumption) ?_|refine Exists.intro _ (And.intro (at_own (hG2 _ _ (by assumption))) ?_)|refine brow_use (by assumption) ?_|refine brow_in (fun _ _=>?_)|refine app_new rfl ?_|refine fun _=>?_))|exact rfl)
  have hd0 := dfs_start (g := g) hs
  have hs0 : sortedV g := gV_sorted hgv
  refine loop_in (ι := List Bool × List Nat × Option (List Nat)) (fun q => match q with
    | (b, st, none) => mkS 84 [(0, .ro (.ints c :: .sl 1 (rpRows bb (List.range g.length)) :: pl)), (1, .rp (bb + s) 0 0), (4, .val (.slice none 0 0)), (5, .own 0), (6, .own 1)] [.arr 1 (boolRows b), .arr 1 (rpRows bb st)] Fs
    | (b, st, some ext) => mkS 84 [(0, .ro (.ints c :: .sl 1 (rpRows bb (List.range g.length)) :: pl)), (1, .rp (bb + s) 0 0), (4, .val (.slice none 0 0)), (5, .own 0), (6, .sub 1 0 st.length)] [.arr 1 (boolRows b), .arr 1 (rpRows bb (st ++ ext))] Fs)
    (fun q => Dfs g s q.1 q.2.1 ∧ 2 * cntF q.1 + q.2.1.length ≤ 2 * g.length + 1 ∧ ∀ e, q.2.2 = some e → ∀ k ∈ e, k < g.length) (fun q => 2 * cntF q.1 + q.2.1.length) ((List.replicate g.length false).set s true, [s], none) [0, 1] ⟨hd0, ?_, fun e he => by cases he⟩ ?_ ?_
  · have := cntF_le ((List.replicate g.length false).set s true)
    simp at this ⊢
    omega
  · repeat' (first|((conv=>whnf); (first|refine brK_dec (fun _=>?_) (fun _=>?_)|refine brK_ndec (fun _=>?_) (fun _=>?_)|refine brK_not (fun _=>?_) (fun _=>?_)|refine brK_in (fun _=>?_) (fun _=>?_)|refine And.intro (by first|exact rfl|exact (by rw [bool_set0]; simp; rfl)|exact ⟨_,rfl,rfl⟩|exact ⟨rfl,rfl,rfl⟩|exact of_decide_eq_true rfl|exact trivial|assumption|omega|(show (_ ≤ _ ∧ _ ≤ _); omega)|(simp; omega)|exact ⟨by first|omega|(simp; omega),_,rfl,rfl⟩) ?_|refine Quo.l (And.intro (by first|exact rfl|exact (by rw [bool_set0]; simp; rfl)|assumption|omega|(simp; omega)) ?_)|refine Quo.r (And.intro (by omega) ?_)|refine Both.mk ?_ ?_|refine Exists.intro _ (And.intro rfl ?_)|refine rep_in ?_|refine opt_use (by assumption) ?_|refine Exists.intro _ (And.intro (at_own (hG2 _ _ (by assumption))) ?_)|refine brow_use (by assumption) ?_|refine brow_in (fun _ _=>?_)|refine app_new rfl ?_|refine fun _=>?_))|exact rfl)
  rintro ⟨b, st, ext⟩ ⟨hd, hm, hext⟩
  dsimp only at hd hm hext
  have hbl := hd.len
  have hlb : (boolRows b).length = g.length := by simp [hbl]
  have hsnoc : st = [] ∨ ∃ st' i, st = st' ++ [i] := by
    rcases List.eq_nil_or_concat st with e | ⟨st', i, e⟩
    · exact .inl e
    · exact .inr ⟨st', i, by rw [e]; simp⟩
  rcases hsnoc with rfl | ⟨st', i, rfl⟩
  · cases ext with
    | none =>
      repeat' (first|((conv=>whnf); (first|refine brK_dec (fun _=>?_) (fun _=>?_)|refine brK_ndec (fun _=>?_) (fun _=>?_)|refine brK_not (fun _=>?_) (fun _=>?_)|refine brK_in (fun _=>?_) (fun _=>?_)|refine And.intro (by first|exact rfl|exact ⟨_,rfl,rfl⟩|exact ⟨rfl,rfl,rfl⟩|exact of_decide_eq_true rfl|exact trivial|assumption|omega|(show (_ ≤ _ ∧ _ ≤ _); omega)|(simp; omega)|exact ⟨by first|omega|(simp; omega),_,rfl,rfl⟩) ?_|refine Quo.l (And.intro (by first|exact rfl|assumption|omega|(simp; omega)) ?_)|refine Quo.r (And.intro (by omega) ?_)|refine Both.mk ?_ ?_|refine Exists.intro _ (And.intro rfl ?_)|refine opt_use (by assumption) ?_|refine brow_use (by assumption) ?_|refine brow_in (fun _ _=>?_)|refine fun _=>?_))|exact rfl)
      refine loop_in (ι := Nat) (fun q => mkS 84 [(0, .ro (.ints c :: .sl 1 (rpRows bb (List.range g.length)) :: pl)), (1, .rp (bb + s) 0 0), (4, .val (.slice none 0 0)), (5, .own 0), (10, .own 1), (70, .own 0), (71, I (boolRows b).length), (72, I q)] [.arr 1 (boolRows b), .iarr (natI (idxP b q))] Fs)
        (fun q => q ≤ g.length) (fun q => g.length - q) 0 [0, 2] (Nat.zero_le _) ?_ ?_
      · repeat' (first|((conv=>whnf); (first|refine brK_dec (fun _=>?_) (fun _=>?_)|refine brK_ndec (fun _=>?_) (fun _=>?_)|refine brK_not (fun _=>?_) (fun _=>?_)|refine brK_in (fun _=>?_) (fun _=>?_)|refine And.intro (by first|exact rfl|exact (by simp [idxP])|exact ⟨_,rfl,rfl⟩|exact ⟨rfl,rfl,rfl⟩|exact of_decide_eq_true rfl|exact trivial|assumption|omega|(show (_ ≤ _ ∧ _ ≤ _); omega)|(simp; omega)|exact ⟨by first|omega|(simp; omega),_,rfl,rfl⟩) ?_|refine Quo.l (And.intro (by first|exact rfl|exact (by simp [idxP])|assumption|omega|(simp; omega)) ?_)|refine Quo.r (And.intro (by omega) ?_)|refine Both.mk ?_ ?_|refine Exists.intro _ (And.intro rfl ?_)|refine opt_use (by assumption) ?_|refine brow_use (by assumption) ?_|refine brow_in (fun _ _=>?_)|refine fun _=>?_))|exact rfl)
      intro q hq
      have hlq := idxP_len (b := b) (i := q)
      have hln : (natI (idxP b q)).length = (idxP b q).length := by simp
      repeat' (first|((conv=>whnf); (first|refine brK_dec (fun _=>?_) (fun _=>?_)|refine brK_ndec (fun _=>?_) (fun _=>?_)|refine brK_not (fun _=>?_) (fun _=>?_)|refine brK_in (fun _=>?_) (fun _=>?_)|refine And.intro (by first|exact rfl|exact (by first|exact Nat.le_trans (Nat.mul_le_mul_right _ (show _ ≤ 2000001 from by simp; omega)) (by decide)|(simp; omega))|exact ⟨_,rfl,rfl⟩|exact ⟨rfl,rfl,rfl⟩|exact of_decide_eq_true rfl|exact trivial|assumption|omega|(show (_ ≤ _ ∧ _ ≤ _); omega)|(simp; omega)|exact ⟨by first|omega|(simp; omega),_,rfl,rfl⟩) ?_|refine Quo.l (And.intro (by first|exact rfl|exact (by first|exact Nat.le_trans (Nat.mul_le_mul_right _ (show _ ≤ 2000001 from by simp; omega)) (by decide)|(simp; omega))|assumption|omega|(simp; omega)) ?_)|refine Quo.r (And.intro (by omega) ?_)|refine Both.mk ?_ ?_|refine Exists.intro _ (And.intro rfl ?_)|refine opt_use (by assumption) ?_|refine brow_use (by assumption) ?_|refine brow_in (fun _ _=>?_)|refine fun _=>?_))|exact rfl)
      · rename_i h0 y hy e
        have hy : b[q]? = some y := hy
        have e3 := idxP_snoc hy
        rw [if_pos e] at e3
        refine ⟨q + 1, [0, 1], by omega, by omega, ?_⟩
        repeat' (first|((conv=>whnf); (first|refine brK_dec (fun _=>?_) (fun _=>?_)|refine brK_ndec (fun _=>?_) (fun _=>?_)|refine brK_not (fun _=>?_) (fun _=>?_)|refine brK_in (fun _=>?_) (fun _=>?_)|refine And.intro (by first|exact rfl|exact (by rw [e3]; simp [List.take_of_length_le])|exact ⟨_,rfl,rfl⟩|exact ⟨rfl,rfl,rfl⟩|exact of_decide_eq_true rfl|exact trivial|assumption|omega|(show (_ ≤ _ ∧ _ ≤ _); omega)|(simp; omega)|exact ⟨by first|omega|(simp; omega),_,rfl,rfl⟩) ?_|refine Quo.l (And.intro (by first|exact rfl|exact (by rw [e3]; simp [List.take_of_length_le])|assumption|omega|(simp; omega)) ?_)|refine Quo.r (And.intro (by omega) ?_)|refine Both.mk ?_ ?_|refine Exists.intro _ (And.intro rfl ?_)|refine opt_use (by assumption) ?_|refine brow_use (by assumption) ?_|refine brow_in (fun _ _=>?_)|refine fun _=>?_))|exact rfl)
      · rename_i h0 y hy e
        have hy : b[q]? = some y := hy
        have e3 := idxP_snoc hy
        rw [if_neg (by rw [e]; simp), List.append_nil] at e3
        refine ⟨q + 1, [0, 1], by omega, by omega, ?_⟩
        repeat' (first|((conv=>whnf); (first|refine brK_dec (fun _=>?_) (fun _=>?_)|refine brK_ndec (fun _=>?_) (fun _=>?_)|refine brK_not (fun _=>?_) (fun _=>?_)|refine brK_in (fun _=>?_) (fun _=>?_)|refine And.intro (by first|exact rfl|exact (by rw [e3])|exact ⟨_,rfl,rfl⟩|exact ⟨rfl,rfl,rfl⟩|exact of_decide_eq_true rfl|exact trivial|assumption|omega|(show (_ ≤ _ ∧ _ ≤ _); omega)|(simp; omega)|exact ⟨by first|omega|(simp; omega),_,rfl,rfl⟩) ?_|refine Quo.l (And.intro (by first|exact rfl|exact (by rw [e3])|assumption|omega|(simp; omega)) ?_)|refine Quo.r (And.intro (by omega) ?_)|refine Both.mk ?_ ?_|refine Exists.intro _ (And.intro rfl ?_)|refine opt_use (by assumption) ?_|refine brow_use (by assumption) ?_|refine brow_in (fun _ _=>?_)|refine fun _=>?_))|exact rfl)
      · rename_i h0
        have hq2 : q = g.length := by omega
        subst hq2
        have e4 : idxP b g.length = idxT (pastV g s) := by
          rw [← dfs_done hd, idxT, hbl]
          rfl
        rw [e4]
        exact h
    | some ext =>
      repeat' (first|((conv=>whnf); (first|refine brK_dec (fun _=>?_) (fun _=>?_)|refine brK_ndec (fun _=>?_) (fun _=>?_)|refine brK_not (fun _=>?_) (fun _=>?_)|refine brK_in (fun _=>?_) (fun _=>?_)|refine And.intro (by first|exact rfl|exact ⟨_,rfl,rfl⟩|exact ⟨rfl,rfl,rfl⟩|exact of_decide_eq_true rfl|exact trivial|assumption|omega|(show (_ ≤ _ ∧ _ ≤ _); omega)|(simp; omega)|exact ⟨by first|omega|(simp; omega),_,rfl,rfl⟩) ?_|refine Quo.l (And.intro (by first|exact rfl|assumption|omega|(simp; omega)) ?_)|refine Quo.r (And.intro (by omega) ?_)|refine Both.mk ?_ ?_|refine Exists.intro _ (And.intro rfl ?_)|refine opt_use (by assumption) ?_|refine brow_use (by assumption) ?_|refine brow_in (fun _ _=>?_)|refine fun _=>?_))|exact rfl)
      refine loop_in (ι := Nat) (fun q => mkS 84 [(0, .ro (.ints c :: .sl 1 (rpRows bb (List.range g.length)) :: pl)), (1, .rp (bb + s) 0 0), (4, .val (.slice none 0 0)), (5, .own 0), (10, .own 1), (70, .own 0), (71, I (boolRows b).length), (72, I q)] [.arr 1 (boolRows b), .iarr (natI (idxP b q))] Fs)
        (fun q => q ≤ g.length) (fun q => g.length - q) 0 [0, 2] (Nat.zero_le _) ?_ ?_
      · repeat' (first|((conv=>whnf); (first|refine brK_dec (fun _=>?_) (fun _=>?_)|refine brK_ndec (fun _=>?_) (fun _=>?_)|refine brK_not (fun _=>?_) (fun _=>?_)|refine brK_in (fun _=>?_) (fun _=>?_)|refine And.intro (by first|exact rfl|exact (by simp [idxP])|exact ⟨_,rfl,rfl⟩|exact ⟨rfl,rfl,rfl⟩|exact of_decide_eq_true rfl|exact trivial|assumption|omega|(show (_ ≤ _ ∧ _ ≤ _); omega)|(simp; omega)|exact ⟨by first|omega|(simp; omega),_,rfl,rfl⟩) ?_|refine Quo.l (And.intro (by first|exact rfl|exact (by simp [idxP])|assumption|omega|(simp; omega)) ?_)|refine Quo.r (And.intro (by omega) ?_)|refine Both.mk ?_ ?_|refine Exists.intro _ (And.intro rfl ?_)|refine opt_use (by assumption) ?_|refine brow_use (by assumption) ?_|refine brow_in (fun _ _=>?_)|refine fun _=>?_))|exact rfl)
      intro q hq
      have hlq := idxP_len (b := b) (i := q)
      have hln : (natI (idxP b q)).length = (idxP b q).length := by simp
      repeat' (first|((conv=>whnf); (first|refine brK_dec (fun _=>?_) (fun _=>?_)|refine brK_ndec (fun _=>?_) (fun _=>?_)|refine brK_not (fun _=>?_) (fun _=>?_)|refine brK_in (fun _=>?_) (fun _=>?_)|refine And.intro (by first|exact rfl|exact (by first|exact Nat.le_trans (Nat.mul_le_mul_right _ (show _ ≤ 2000001 from by simp; omega)) (by decide)|(simp; omega))|exact ⟨_,rfl,rfl⟩|exact ⟨rfl,rfl,rfl⟩|exact of_decide_eq_true rfl|exact trivial|assumption|omega|(show (_ ≤ _ ∧ _ ≤ _); omega)|(simp; omega)|exact ⟨by first|omega|(simp; omega),_,rfl,rfl⟩) ?_|refine Quo.l (And.intro (by first|exact rfl|exact (by first|exact Nat.le_trans (Nat.mul_le_mul_right _ (show _ ≤ 2000001 from by simp; omega)) (by decide)|(simp; omega))|assumption|omega|(simp; omega)) ?_)|refine Quo.r (And.intro (by omega) ?_)|refine Both.mk ?_ ?_|refine Exists.intro _ (And.intro rfl ?_)|refine opt_use (by assumption) ?_|refine brow_use (by assumption) ?_|refine brow_in (fun _ _=>?_)|refine fun _=>?_))|exact rfl)
      · rename_i h0 y hy e
        have hy : b[q]? = some y := hy
        have e3 := idxP_snoc hy
        rw [if_pos e] at e3
        refine ⟨q + 1, [0, 1], by omega, by omega, ?_⟩
        repeat' (first|((conv=>whnf); (first|refine brK_dec (fun _=>?_) (fun _=>?_)|refine brK_ndec (fun _=>?_) (fun _=>?_)|refine brK_not (fun _=>?_) (fun _=>?_)|refine brK_in (fun _=>?_) (fun _=>?_)|refine And.intro (by first|exact rfl|exact (by rw [e3]; simp [List.take_of_length_le])|exact ⟨_,rfl,rfl⟩|exact ⟨rfl,rfl,rfl⟩|exact of_decide_eq_true rfl|exact trivial|assumption|omega|(show (_ ≤ _ ∧ _ ≤ _); omega)|(simp; omega)|exact ⟨by first|omega|(simp; omega),_,rfl,rfl⟩) ?_|refine Quo.l (And.intro (by first|exact rfl|exact (by rw [e3]; simp [List.take_of_length_le])|assumption|omega|(simp; omega)) ?_)|refine Quo.r (And.intro (by omega) ?_)|refine Both.mk ?_ ?_|refine Exists.intro _ (And.intro rfl ?_)|refine opt_use (by assumption) ?_|refine brow_use (by assumption) ?_|refine brow_in (fun _ _=>?_)|refine fun _=>?_))|exact rfl)
      · rename_i h0 y hy e
        have hy : b[q]? = some y := hy
        have e3 := idxP_snoc hy
        rw [if_neg (by rw [e]; simp), List.append_nil] at e3
        refine ⟨q + 1, [0, 1], by omega, by omega, ?_⟩
        repeat' (first|((conv=>whnf); (first|refine brK_dec (fun _=>?_) (fun _=>?_)|refine brK_ndec (fun _=>?_) (fun _=>?_)|refine brK_not (fun _=>?_) (fun _=>?_)|refine brK_in (fun _=>?_) (fun _=>?_)|refine And.intro (by first|exact rfl|exact (by rw [e3])|exact ⟨_,rfl,rfl⟩|exact ⟨rfl,rfl,rfl⟩|exact of_decide_eq_true rfl|exact trivial|assumption|omega|(show (_ ≤ _ ∧ _ ≤ _); omega)|(simp; omega)|exact ⟨by first|omega|(simp; omega),_,rfl,rfl⟩) ?_|refine Quo.l (And.intro (by first|exact rfl|exact (by rw [e3])|assumption|omega|(simp; omega)) ?_)|refine Quo.r (And.intro (by omega) ?_)|refine Both.mk ?_ ?_|refine Exists.intro _ (And.intro rfl ?_)|refine opt_use (by assumption) ?_|refine brow_use (by assumption) ?_|refine brow_in (fun _ _=>?_)|refine fun _=>?_))|exact rfl)
      · rename_i h0
        have hq2 : q = g.length := by omega
        subst hq2
        have e4 : idxP b g.length = idxT (pastV g s) := by
          rw [← dfs_done hd, idxT, hbl]
          rfl
        rw [e4]
        exact h
  · have hst := mem_bound hd
    have hlst : (rpRows bb (st' ++ [i])).length = st'.length + 1 := by simp
    have hm : 2 * cntF b + (st'.length + 1) ≤ 2 * g.length + 1 := by simpa using hm
    cases ext with
    | none =>
      repeat' (first|((conv=>whnf); (first|refine brK_dec (fun _=>?_) (fun _=>?_)|refine brK_ndec (fun _=>?_) (fun _=>?_)|refine brK_not (fun _=>?_) (fun _=>?_)|refine brK_in (fun _=>?_) (fun _=>?_)|refine And.intro (by first|exact rfl|exact ⟨_,rfl,rfl⟩|exact ⟨rfl,rfl,rfl⟩|exact of_decide_eq_true rfl|exact trivial|assumption|omega|(show (_ ≤ _ ∧ _ ≤ _); omega)|(simp; omega)|exact ⟨by first|omega|(simp; omega),_,rfl,rfl⟩) ?_|refine Quo.l (And.intro (by first|exact rfl|assumption|omega|(simp; omega)) ?_)|refine Quo.r (And.intro (by omega) ?_)|refine Both.mk ?_ ?_|refine Exists.intro _ (And.intro rfl ?_)|refine nrow_in hst (fun _ _ _ _ _=>?_)|refine Exists.intro _ (And.intro (at_own (hG2 _ _ (by assumption))) ?_)|refine opt_use (by assumption) ?_|refine brow_use (by assumption) ?_|refine brow_in (fun _ _=>?_)|refine fun _=>?_))|exact rfl)
      · rename_i h0 j v hj hv hjl0
        obtain rfl : j = i := last_get hj (by simp)
        have hpl2 := parI_len hv
        have hpv := hp v (List.mem_of_getElem? hv)
        have hlp : (rpRows bb (parI g j)).length = (parI g j).length := by simp
        refine loop_in (ι := Nat × List Bool × List Nat × Option (List Nat)) (fun q => match q with
          | (k, b, st, none) => mkS 84 [(0, .ro (.ints c :: .sl 1 (rpRows bb (List.range g.length)) :: pl)), (1, .rp (bb + s) 0 0), (4, .val (.slice none 0 0)), (5, .own 0), (6, .own 1), (44, .sl 1 (rpRows bb (parI g j))), (45, I (rpRows bb (parI g j)).length), (46, I k)] [.arr 1 (boolRows b), .arr 1 (rpRows bb st)] Fs
          | (k, b, st, some e) => mkS 84 [(0, .ro (.ints c :: .sl 1 (rpRows bb (List.range g.length)) :: pl)), (1, .rp (bb + s) 0 0), (4, .val (.slice none 0 0)), (5, .own 0), (6, .sub 1 0 st.length), (44, .sl 1 (rpRows bb (parI g j))), (45, I (rpRows bb (parI g j)).length), (46, I k)] [.arr 1 (boolRows b), .arr 1 (rpRows bb (st ++ e))] Fs)
          (fun q => q.1 ≤ (parI g j).length ∧ Dfk g s q.2.1 q.2.2.1 j q.1 ∧ 2 * cntF q.2.1 + q.2.2.1.length ≤ 2 * cntF b + st'.length ∧ ∀ e, q.2.2.2 = some e → ∀ k ∈ e, k < g.length) (fun q => (parI g j).length - q.1) (0, b, st', some [j]) [0, 1]
          ⟨Nat.zero_le _, dfk_start hd, Nat.le_refl _, fun e he k hk => by
            cases he
            exact hst k (List.mem_append_right _ hk)⟩ ?_ ?_
        · repeat' (first|((conv=>whnf); (first|refine brK_dec (fun _=>?_) (fun _=>?_)|refine brK_ndec (fun _=>?_) (fun _=>?_)|refine brK_not (fun _=>?_) (fun _=>?_)|refine brK_in (fun _=>?_) (fun _=>?_)|refine And.intro (by first|exact rfl|exact (by first|(congr 1; simp; omega)|(congr 1; simp; done)|(simp; omega)|(simp; done))|exact ⟨_,rfl,rfl⟩|exact ⟨rfl,rfl,rfl⟩|exact of_decide_eq_true rfl|exact trivial|assumption|omega|(show (_ ≤ _ ∧ _ ≤ _); omega)|(simp; omega)|exact ⟨by first|omega|(simp; omega),_,rfl,rfl⟩) ?_|refine Quo.l (And.intro (by first|exact rfl|exact (by first|(congr 1; simp; omega)|(congr 1; simp; done)|(simp; omega)|(simp; done))|assumption|omega|(simp; omega)) ?_)|refine Quo.r (And.intro (by omega) ?_)|refine Both.mk ?_ ?_|refine Exists.intro _ (And.intro rfl ?_)|refine nrow_in hst (fun _ _ _ _ _=>?_)|refine Exists.intro _ (And.intro (at_own (hG2 _ _ (by assumption))) ?_)|refine opt_use (by assumption) ?_|refine brow_use (by assumption) ?_|refine brow_in (fun _ _=>?_)|refine fun _=>?_))|exact rfl)
        rintro ⟨k, b1, st1, ex1⟩ ⟨hk1, hk2, hk3, hk4⟩
        dsimp only at hk1 hk2 hk3 hk4
        have hb1 := hk2.len
        have hlb1 : (boolRows b1).length = g.length := by simp [hb1]
        have hst1 : st1.length ≤ 2000001 := by omega
        cases ex1 with
        | none =>
          repeat' (first|((conv=>whnf); (first|refine brK_dec (fun _=>?_) (fun _=>?_)|refine brK_ndec (fun _=>?_) (fun _=>?_)|refine brK_not (fun _=>?_) (fun _=>?_)|refine brK_in (fun _=>?_) (fun _=>?_)|refine And.intro (by first|exact rfl|exact (by first|exact Nat.le_trans (Nat.mul_le_mul_right _ (show _ ≤ 2000005 from by simp [chunks]; omega)) (by decide)|(simp; done)|(simp [chunks]; omega))|exact ⟨_,rfl,rfl⟩|exact ⟨rfl,rfl,rfl⟩|exact of_decide_eq_true rfl|exact trivial|assumption|omega|(show (_ ≤ _ ∧ _ ≤ _); omega)|(simp; omega)|exact ⟨by first|omega|(simp; omega),_,rfl,rfl⟩) ?_|refine Quo.l (And.intro (by first|exact rfl|exact (by first|exact Nat.le_trans (Nat.mul_le_mul_right _ (show _ ≤ 2000005 from by simp [chunks]; omega)) (by decide)|(simp; done)|(simp [chunks]; omega))|assumption|omega|(simp; omega)) ?_)|refine Quo.r (And.intro (by omega) ?_)|refine Both.mk ?_ ?_|refine Exists.intro _ (And.intro rfl ?_)|refine rprow_use (by assumption) ?_|refine nrow_in par_bound (fun _ _ _ _ _=>?_)|refine Exists.intro _ (And.intro (at_own (hG2 _ _ (by assumption))) ?_)|refine opt_use (by assumption) ?_|refine brow_use (by assumption) ?_|refine brow_in (fun _ _=>?_)|refine fun _=>?_))|exact rfl)
          · rename_i h1 x u hj2 hu hjl y hy hyt
            have hj2 : (parI g j)[k]? = some x := hj2
            have hbf : b1[x]? = some false := by rw [← hyt]; exact hy
            have hcs := cntF_set hbf
            refine ⟨(k + 1, b1.set x true, st1 ++ [x], none), [0, 1], ⟨by dsimp only; omega, dfk_new hk2 hj2 hjl, by simp; omega, (fun x hx => by cases hx)⟩, by dsimp only; omega, ?_⟩
            repeat' (first|((conv=>whnf); (first|refine brK_dec (fun _=>?_) (fun _=>?_)|refine brK_ndec (fun _=>?_) (fun _=>?_)|refine brK_not (fun _=>?_) (fun _=>?_)|refine brK_in (fun _=>?_) (fun _=>?_)|refine And.intro (by first|exact rfl|exact (by first|(rw [← brow_set]; simp; rfl)|exact rows_snoc rfl)|exact ⟨_,rfl,rfl⟩|exact ⟨rfl,rfl,rfl⟩|exact of_decide_eq_true rfl|exact trivial|assumption|omega|(show (_ ≤ _ ∧ _ ≤ _); omega)|(simp; omega)|exact ⟨by first|omega|(simp; omega),_,rfl,rfl⟩) ?_|refine Quo.l (And.intro (by first|exact rfl|exact (by first|(rw [← brow_set]; simp; rfl)|exact rows_snoc rfl)|assumption|omega|(simp; omega)) ?_)|refine Quo.r (And.intro (by omega) ?_)|refine Both.mk ?_ ?_|refine Exists.intro _ (And.intro rfl ?_)|refine rprow_use (by assumption) ?_|refine nrow_in par_bound (fun _ _ _ _ _=>?_)|refine Exists.intro _ (And.intro (at_own (hG2 _ _ (by assumption))) ?_)|refine opt_use (by assumption) ?_|refine brow_use (by assumption) ?_|refine brow_in (fun _ _=>?_)|refine fun _=>?_))|exact rfl)
          · rename_i h1 x u hj2 hu hjl y hy hyt
            have hj2 : (parI g j)[k]? = some x := hj2
            have hbt : b1[x]? = some true := by rw [← hyt]; exact hy
            refine ⟨(k + 1, b1, st1, none), [0, 1], ⟨by dsimp only; omega, dfk_seen hk2 hj2 hbt, hk3, hk4⟩, by dsimp only; omega, ?_⟩
            repeat' (first|((conv=>whnf); (first|refine brK_dec (fun _=>?_) (fun _=>?_)|refine brK_ndec (fun _=>?_) (fun _=>?_)|refine brK_not (fun _=>?_) (fun _=>?_)|refine brK_in (fun _=>?_) (fun _=>?_)|refine And.intro (by first|exact rfl|exact ⟨_,rfl,rfl⟩|exact ⟨rfl,rfl,rfl⟩|exact of_decide_eq_true rfl|exact trivial|assumption|omega|(show (_ ≤ _ ∧ _ ≤ _); omega)|(simp; omega)|exact ⟨by first|omega|(simp; omega),_,rfl,rfl⟩) ?_|refine Quo.l (And.intro (by first|exact rfl|assumption|omega|(simp; omega)) ?_)|refine Quo.r (And.intro (by omega) ?_)|refine Both.mk ?_ ?_|refine Exists.intro _ (And.intro rfl ?_)|refine rprow_use (by assumption) ?_|refine nrow_in par_bound (fun _ _ _ _ _=>?_)|refine Exists.intro _ (And.intro (at_own (hG2 _ _ (by assumption))) ?_)|refine opt_use (by assumption) ?_|refine brow_use (by assumption) ?_|refine brow_in (fun _ _=>?_)|refine fun _=>?_))|exact rfl)
          · rename_i h1
            refine ⟨(b1, st1, none), [0, 1], ⟨dfk_end hk2 (by omega), by dsimp only; omega, hk4⟩, by dsimp only; simp; omega, ?_⟩
            repeat' (first|((conv=>whnf); (first|refine brK_dec (fun _=>?_) (fun _=>?_)|refine brK_ndec (fun _=>?_) (fun _=>?_)|refine brK_not (fun _=>?_) (fun _=>?_)|refine brK_in (fun _=>?_) (fun _=>?_)|refine And.intro (by first|exact rfl|exact ⟨_,rfl,rfl⟩|exact ⟨rfl,rfl,rfl⟩|exact of_decide_eq_true rfl|exact trivial|assumption|omega|(show (_ ≤ _ ∧ _ ≤ _); omega)|(simp; omega)|exact ⟨by first|omega|(simp; omega),_,rfl,rfl⟩) ?_|refine Quo.l (And.intro (by first|exact rfl|assumption|omega|(simp; omega)) ?_)|refine Quo.r (And.intro (by omega) ?_)|refine Both.mk ?_ ?_|refine Exists.intro _ (And.intro rfl ?_)|refine rprow_use (by assumption) ?_|refine nrow_in par_bound (fun _ _ _ _ _=>?_)|refine Exists.intro _ (And.intro (at_own (hG2 _ _ (by assumption))) ?_)|refine opt_use (by assumption) ?_|refine brow_use (by assumption) ?_|refine brow_in (fun _ _=>?_)|refine fun _=>?_))|exact rfl)
        | some e =>
          repeat' (first|((conv=>whnf); (first|refine brK_dec (fun _=>?_) (fun _=>?_)|refine brK_ndec (fun _=>?_) (fun _=>?_)|refine brK_not (fun _=>?_) (fun _=>?_)|refine brK_in (fun _=>?_) (fun _=>?_)|refine And.intro (by first|exact rfl|exact (by first|exact Nat.le_trans (Nat.mul_le_mul_right _ (show _ ≤ 2000005 from by simp [chunks]; omega)) (by decide)|(simp; done)|(simp [chunks]; omega))|exact ⟨_,rfl,rfl⟩|exact ⟨rfl,rfl,rfl⟩|exact of_decide_eq_true rfl|exact trivial|assumption|omega|(show (_ ≤ _ ∧ _ ≤ _); omega)|(simp; omega)|exact ⟨by first|omega|(simp; omega),_,rfl,rfl⟩) ?_|refine Quo.l (And.intro (by first|exact rfl|exact (by first|exact Nat.le_trans (Nat.mul_le_mul_right _ (show _ ≤ 2000005 from by simp [chunks]; omega)) (by decide)|(simp; done)|(simp [chunks]; omega))|assumption|omega|(simp; omega)) ?_)|refine Quo.r (And.intro (by omega) ?_)|refine Both.mk ?_ ?_|refine Exists.intro _ (And.intro rfl ?_)|refine rprow_use (by assumption) ?_|refine nrow_in par_bound (fun _ _ _ _ _=>?_)|refine Exists.intro _ (And.intro (at_own (hG2 _ _ (by assumption))) ?_)|refine opt_use (by assumption) ?_|refine brow_use (by assumption) ?_|refine brow_in (fun _ _=>?_)|refine fun _=>?_))|exact rfl)
          · rename_i h1 x u hj2 hu hjl y hy hyt
            have hj2 : (parI g j)[k]? = some x := hj2
            have hbf : b1[x]? = some false := by rw [← hyt]; exact hy
            have hcs := cntF_set hbf
            refine ⟨(k + 1, b1.set x true, st1 ++ [x], none), [0, 1], ⟨by dsimp only; omega, dfk_new hk2 hj2 hjl, by simp; omega, (fun x hx => by cases hx)⟩, by dsimp only; omega, ?_⟩
            repeat' (first|((conv=>whnf); (first|refine brK_dec (fun _=>?_) (fun _=>?_)|refine brK_ndec (fun _=>?_) (fun _=>?_)|refine brK_not (fun _=>?_) (fun _=>?_)|refine brK_in (fun _=>?_) (fun _=>?_)|refine And.intro (by first|exact rfl|exact (by first|(rw [← brow_set]; simp; rfl)|exact rows_take rfl)|exact ⟨_,rfl,rfl⟩|exact ⟨rfl,rfl,rfl⟩|exact of_decide_eq_true rfl|exact trivial|assumption|omega|(show (_ ≤ _ ∧ _ ≤ _); omega)|(simp; omega)|exact ⟨by first|omega|(simp; omega),_,rfl,rfl⟩) ?_|refine Quo.l (And.intro (by first|exact rfl|exact (by first|(rw [← brow_set]; simp; rfl)|exact rows_take rfl)|assumption|omega|(simp; omega)) ?_)|refine Quo.r (And.intro (by omega) ?_)|refine Both.mk ?_ ?_|refine Exists.intro _ (And.intro rfl ?_)|refine rprow_use (by assumption) ?_|refine nrow_in par_bound (fun _ _ _ _ _=>?_)|refine Exists.intro _ (And.intro (at_own (hG2 _ _ (by assumption))) ?_)|refine opt_use (by assumption) ?_|refine brow_use (by assumption) ?_|refine brow_in (fun _ _=>?_)|refine fun _=>?_))|exact rfl)
          · rename_i h1 x u hj2 hu hjl y hy hyt
            have hj2 : (parI g j)[k]? = some x := hj2
            have hbt : b1[x]? = some true := by rw [← hyt]; exact hy
            refine ⟨(k + 1, b1, st1, some e), [0, 1], ⟨by dsimp only; omega, dfk_seen hk2 hj2 hbt, hk3, hk4⟩, by dsimp only; omega, ?_⟩
            repeat' (first|((conv=>whnf); (first|refine brK_dec (fun _=>?_) (fun _=>?_)|refine brK_ndec (fun _=>?_) (fun _=>?_)|refine brK_not (fun _=>?_) (fun _=>?_)|refine brK_in (fun _=>?_) (fun _=>?_)|refine And.intro (by first|exact rfl|exact ⟨_,rfl,rfl⟩|exact ⟨rfl,rfl,rfl⟩|exact of_decide_eq_true rfl|exact trivial|assumption|omega|(show (_ ≤ _ ∧ _ ≤ _); omega)|(simp; omega)|exact ⟨by first|omega|(simp; omega),_,rfl,rfl⟩) ?_|refine Quo.l (And.intro (by first|exact rfl|assumption|omega|(simp; omega)) ?_)|refine Quo.r (And.intro (by omega) ?_)|refine Both.mk ?_ ?_|refine Exists.intro _ (And.intro rfl ?_)|refine rprow_use (by assumption) ?_|refine nrow_in par_bound (fun _ _ _ _ _=>?_)|refine Exists.intro _ (And.intro (at_own (hG2 _ _ (by assumption))) ?_)|refine opt_use (by assumption) ?_|refine brow_use (by assumption) ?_|refine brow_in (fun _ _=>?_)|refine fun _=>?_))|exact rfl)
          · rename_i h1
            refine ⟨(b1, st1, some e), [0, 1], ⟨dfk_end hk2 (by omega), by dsimp only; omega, hk4⟩, by dsimp only; simp; omega, ?_⟩
            repeat' (first|((conv=>whnf); (first|refine brK_dec (fun _=>?_) (fun _=>?_)|refine brK_ndec (fun _=>?_) (fun _=>?_)|refine brK_not (fun _=>?_) (fun _=>?_)|refine brK_in (fun _=>?_) (fun _=>?_)|refine And.intro (by first|exact rfl|exact ⟨_,rfl,rfl⟩|exact ⟨rfl,rfl,rfl⟩|exact of_decide_eq_true rfl|exact trivial|assumption|omega|(show (_ ≤ _ ∧ _ ≤ _); omega)|(simp; omega)|exact ⟨by first|omega|(simp; omega),_,rfl,rfl⟩) ?_|refine Quo.l (And.intro (by first|exact rfl|assumption|omega|(simp; omega)) ?_)|refine Quo.r (And.intro (by omega) ?_)|refine Both.mk ?_ ?_|refine Exists.intro _ (And.intro rfl ?_)|refine rprow_use (by assumption) ?_|refine nrow_in par_bound (fun _ _ _ _ _=>?_)|refine Exists.intro _ (And.intro (at_own (hG2 _ _ (by assumption))) ?_)|refine opt_use (by assumption) ?_|refine brow_use (by assumption) ?_|refine brow_in (fun _ _=>?_)|refine fun _=>?_))|exact rfl)
      · rename_i h0
        exfalso
        simp at h0
    | some ext =>
      have hst2 : ∀ k ∈ (st' ++ [i]) ++ ext, k < g.length := fun k hk => (List.mem_append.1 hk).elim (hst k) (hext _ rfl k)
      repeat' (first|((conv=>whnf); (first|refine brK_dec (fun _=>?_) (fun _=>?_)|refine brK_ndec (fun _=>?_) (fun _=>?_)|refine brK_not (fun _=>?_) (fun _=>?_)|refine brK_in (fun _=>?_) (fun _=>?_)|refine And.intro (by first|exact rfl|exact ⟨_,rfl,rfl⟩|exact ⟨rfl,rfl,rfl⟩|exact of_decide_eq_true rfl|exact trivial|assumption|omega|(show (_ ≤ _ ∧ _ ≤ _); omega)|(simp; omega)|exact ⟨by first|omega|(simp; omega),_,rfl,rfl⟩) ?_|refine Quo.l (And.intro (by first|exact rfl|assumption|omega|(simp; omega)) ?_)|refine Quo.r (And.intro (by omega) ?_)|refine Both.mk ?_ ?_|refine Exists.intro _ (And.intro rfl ?_)|refine nrow_in hst2 (fun _ _ _ _ _=>?_)|refine Exists.intro _ (And.intro (at_own (hG2 _ _ (by assumption))) ?_)|refine opt_use (by assumption) ?_|refine brow_use (by assumption) ?_|refine brow_in (fun _ _=>?_)|refine fun _=>?_))|exact rfl)
      · rename_i h0 j v hj hv hjl0
        obtain rfl : j = i := last_get2 hj (by simp; done)
        have hpl2 := parI_len hv
        have hpv := hp v (List.mem_of_getElem? hv)
        have hlp : (rpRows bb (parI g j)).length = (parI g j).length := by simp
        refine loop_in (ι := Nat × List Bool × List Nat × Option (List Nat)) (fun q => match q with
          | (k, b, st, none) => mkS 84 [(0, .ro (.ints c :: .sl 1 (rpRows bb (List.range g.length)) :: pl)), (1, .rp (bb + s) 0 0), (4, .val (.slice none 0 0)), (5, .own 0), (6, .own 1), (44, .sl 1 (rpRows bb (parI g j))), (45, I (rpRows bb (parI g j)).length), (46, I k)] [.arr 1 (boolRows b), .arr 1 (rpRows bb st)] Fs
          | (k, b, st, some e) => mkS 84 [(0, .ro (.ints c :: .sl 1 (rpRows bb (List.range g.length)) :: pl)), (1, .rp (bb + s) 0 0), (4, .val (.slice none 0 0)), (5, .own 0), (6, .sub 1 0 st.length), (44, .sl 1 (rpRows bb (parI g j))), (45, I (rpRows bb (parI g j)).length), (46, I k)] [.arr 1 (boolRows b), .arr 1 (rpRows bb (st ++ e))] Fs)
          (fun q => q.1 ≤ (parI g j).length ∧ Dfk g s q.2.1 q.2.2.1 j q.1 ∧ 2 * cntF q.2.1 + q.2.2.1.length ≤ 2 * cntF b + st'.length ∧ ∀ e, q.2.2.2 = some e → ∀ k ∈ e, k < g.length) (fun q => (parI g j).length - q.1) (0, b, st', some (j :: ext)) [0, 1]
          ⟨Nat.zero_le _, dfk_start hd, Nat.le_refl _, fun e he k hk => by
            cases he
            exact (List.mem_cons.1 hk).elim (fun h => by rw [h]; exact hst j (by simp)) (hext ext rfl k)⟩ ?_ ?_
        · repeat' (first|((conv=>whnf); (first|refine brK_dec (fun _=>?_) (fun _=>?_)|refine brK_ndec (fun _=>?_) (fun _=>?_)|refine brK_not (fun _=>?_) (fun _=>?_)|refine brK_in (fun _=>?_) (fun _=>?_)|refine And.intro (by first|exact rfl|exact (by first|(congr 1; simp; omega)|(congr 1; simp; done)|(simp; omega)|(simp; done))|exact ⟨_,rfl,rfl⟩|exact ⟨rfl,rfl,rfl⟩|exact of_decide_eq_true rfl|exact trivial|assumption|omega|(show (_ ≤ _ ∧ _ ≤ _); omega)|(simp; omega)|exact ⟨by first|omega|(simp; omega),_,rfl,rfl⟩) ?_|refine Quo.l (And.intro (by first|exact rfl|exact (by first|(congr 1; simp; omega)|(congr 1; simp; done)|(simp; omega)|(simp; done))|assumption|omega|(simp; omega)) ?_)|refine Quo.r (And.intro (by omega) ?_)|refine Both.mk ?_ ?_|refine Exists.intro _ (And.intro rfl ?_)|refine nrow_in hst2 (fun _ _ _ _ _=>?_)|refine Exists.intro _ (And.intro (at_own (hG2 _ _ (by assumption))) ?_)|refine opt_use (by assumption) ?_|refine brow_use (by assumption) ?_|refine brow_in (fun _ _=>?_)|refine fun _=>?_))|exact rfl)
        rintro ⟨k, b1, st1, ex1⟩ ⟨hk1, hk2, hk3, hk4⟩
        dsimp only at hk1 hk2 hk3 hk4
        have hb1 := hk2.len
        have hlb1 : (boolRows b1).length = g.length := by simp [hb1]
        have hst1 : st1.length ≤ 2000001 := by omega
        cases ex1 with
        | none =>
          repeat' (first|((conv=>whnf); (first|refine brK_dec (fun _=>?_) (fun _=>?_)|refine brK_ndec (fun _=>?_) (fun _=>?_)|refine brK_not (fun _=>?_) (fun _=>?_)|refine brK_in (fun _=>?_) (fun _=>?_)|refine And.intro (by first|exact rfl|exact (by first|exact Nat.le_trans (Nat.mul_le_mul_right _ (show _ ≤ 2000005 from by simp [chunks]; omega)) (by decide)|(simp; done)|(simp [chunks]; omega))|exact ⟨_,rfl,rfl⟩|exact ⟨rfl,rfl,rfl⟩|exact of_decide_eq_true rfl|exact trivial|assumption|omega|(show (_ ≤ _ ∧ _ ≤ _); omega)|(simp; omega)|exact ⟨by first|omega|(simp; omega),_,rfl,rfl⟩) ?_|refine Quo.l (And.intro (by first|exact rfl|exact (by first|exact Nat.le_trans (Nat.mul_le_mul_right _ (show _ ≤ 2000005 from by simp [chunks]; omega)) (by decide)|(simp; done)|(simp [chunks]; omega))|assumption|omega|(simp; omega)) ?_)|refine Quo.r (And.intro (by omega) ?_)|refine Both.mk ?_ ?_|refine Exists.intro _ (And.intro rfl ?_)|refine rprow_use (by assumption) ?_|refine nrow_in par_bound (fun _ _ _ _ _=>?_)|refine Exists.intro _ (And.intro (at_own (hG2 _ _ (by assumption))) ?_)|refine opt_use (by assumption) ?_|refine brow_use (by assumption) ?_|refine brow_in (fun _ _=>?_)|refine fun _=>?_))|exact rfl)
          · rename_i h1 x u hj2 hu hjl y hy hyt
            have hj2 : (parI g j)[k]? = some x := hj2
            have hbf : b1[x]? = some false := by rw [← hyt]; exact hy
            have hcs := cntF_set hbf
            refine ⟨(k + 1, b1.set x true, st1 ++ [x], none), [0, 1], ⟨by dsimp only; omega, dfk_new hk2 hj2 hjl, by simp; omega, (fun x hx => by cases hx)⟩, by dsimp only; omega, ?_⟩
            repeat' (first|((conv=>whnf); (first|refine brK_dec (fun _=>?_) (fun _=>?_)|refine brK_ndec (fun _=>?_) (fun _=>?_)|refine brK_not (fun _=>?_) (fun _=>?_)|refine brK_in (fun _=>?_) (fun _=>?_)|refine And.intro (by first|exact rfl|exact (by first|(rw [← brow_set]; simp; rfl)|exact rows_snoc rfl)|exact ⟨_,rfl,rfl⟩|exact ⟨rfl,rfl,rfl⟩|exact of_decide_eq_true rfl|exact trivial|assumption|omega|(show (_ ≤ _ ∧ _ ≤ _); omega)|(simp; omega)|exact ⟨by first|omega|(simp; omega),_,rfl,rfl⟩) ?_|refine Quo.l (And.intro (by first|exact rfl|exact (by first|(rw [← brow_set]; simp; rfl)|exact rows_snoc rfl)|assumption|omega|(simp; omega)) ?_)|refine Quo.r (And.intro (by omega) ?_)|refine Both.mk ?_ ?_|refine Exists.intro _ (And.intro rfl ?_)|refine rprow_use (by assumption) ?_|refine nrow_in par_bound (fun _ _ _ _ _=>?_)|refine Exists.intro _ (And.intro (at_own (hG2 _ _ (by assumption))) ?_)|refine opt_use (by assumption) ?_|refine brow_use (by assumption) ?_|refine brow_in (fun _ _=>?_)|refine fun _=>?_))|exact rfl)
          · rename_i h1 x u hj2 hu hjl y hy hyt
            have hj2 : (parI g j)[k]? = some x := hj2
            have hbt : b1[x]? = some true := by rw [← hyt]; exact hy
            refine ⟨(k + 1, b1, st1, none), [0, 1], ⟨by dsimp only; omega, dfk_seen hk2 hj2 hbt, hk3, hk4⟩, by dsimp only; omega, ?_⟩
            repeat' (first|((conv=>whnf); (first|refine brK_dec (fun _=>?_) (fun _=>?_)|refine brK_ndec (fun _=>?_) (fun _=>?_)|refine brK_not (fun _=>?_) (fun _=>?_)|refine brK_in (fun _=>?_) (fun _=>?_)|refine And.intro (by first|exact rfl|exact ⟨_,rfl,rfl⟩|exact ⟨rfl,rfl,rfl⟩|exact of_decide_eq_true rfl|exact trivial|assumption|omega|(show (_ ≤ _ ∧ _ ≤ _); omega)|(simp; omega)|exact ⟨by first|omega|(simp; omega),_,rfl,rfl⟩) ?_|refine Quo.l (And.intro (by first|exact rfl|assumption|omega|(simp; omega)) ?_)|refine Quo.r (And.intro (by omega) ?_)|refine Both.mk ?_ ?_|refine Exists.intro _ (And.intro rfl ?_)|refine rprow_use (by assumption) ?_|refine nrow_in par_bound (fun _ _ _ _ _=>?_)|refine Exists.intro _ (And.intro (at_own (hG2 _ _ (by assumption))) ?_)|refine opt_use (by assumption) ?_|refine brow_use (by assumption) ?_|refine brow_in (fun _ _=>?_)|refine fun _=>?_))|exact rfl)
          · rename_i h1
            refine ⟨(b1, st1, none), [0, 1], ⟨dfk_end hk2 (by omega), by dsimp only; omega, hk4⟩, by dsimp only; simp; omega, ?_⟩
            repeat' (first|((conv=>whnf); (first|refine brK_dec (fun _=>?_) (fun _=>?_)|refine brK_ndec (fun _=>?_) (fun _=>?_)|refine brK_not (fun _=>?_) (fun _=>?_)|refine brK_in (fun _=>?_) (fun _=>?_)|refine And.intro (by first|exact rfl|exact ⟨_,rfl,rfl⟩|exact ⟨rfl,rfl,rfl⟩|exact of_decide_eq_true rfl|exact trivial|assumption|omega|(show (_ ≤ _ ∧ _ ≤ _); omega)|(simp; omega)|exact ⟨by first|omega|(simp; omega),_,rfl,rfl⟩) ?_|refine Quo.l (And.intro (by first|exact rfl|assumption|omega|(simp; omega)) ?_)|refine Quo.r (And.intro (by omega) ?_)|refine Both.mk ?_ ?_|refine Exists.intro _ (And.intro rfl ?_)|refine rprow_use (by assumption) ?_|refine nrow_in par_bound (fun _ _ _ _ _=>?_)|refine Exists.intro _ (And.intro (at_own (hG2 _ _ (by assumption))) ?_)|refine opt_use (by assumption) ?_|refine brow_use (by assumption) ?_|refine brow_in (fun _ _=>?_)|refine fun _=>?_))|exact rfl)
        | some e =>
          repeat' (first|((conv=>whnf); (first|refine brK_dec (fun _=>?_) (fun _=>?_)|refine brK_ndec (fun _=>?_) (fun _=>?_)|refine brK_not (fun _=>?_) (fun _=>?_)|refine brK_in (fun _=>?_) (fun _=>?_)|refine And.intro (by first|exact rfl|exact (by first|exact Nat.le_trans (Nat.mul_le_mul_right _ (show _ ≤ 2000005 from by simp [chunks]; omega)) (by decide)|(simp; done)|(simp [chunks]; omega))|exact ⟨_,rfl,rfl⟩|exact ⟨rfl,rfl,rfl⟩|exact of_decide_eq_true rfl|exact trivial|assumption|omega|(show (_ ≤ _ ∧ _ ≤ _); omega)|(simp; omega)|exact ⟨by first|omega|(simp; omega),_,rfl,rfl⟩) ?_|refine Quo.l (And.intro (by first|exact rfl|exact (by first|exact Nat.le_trans (Nat.mul_le_mul_right _ (show _ ≤ 2000005 from by simp [chunks]; omega)) (by decide)|(simp; done)|(simp [chunks]; omega))|assumption|omega|(simp; omega)) ?_)|refine Quo.r (And.intro (by omega) ?_)|refine Both.mk ?_ ?_|refine Exists.intro _ (And.intro rfl ?_)|refine rprow_use (by assumption) ?_|refine nrow_in par_bound (fun _ _ _ _ _=>?_)|refine Exists.intro _ (And.intro (at_own (hG2 _ _ (by assumption))) ?_)|refine opt_use (by assumption) ?_|refine brow_use (by assumption) ?_|refine brow_in (fun _ _=>?_)|refine fun _=>?_))|exact rfl)
          · rename_i h1 x u hj2 hu hjl y hy hyt
            have hj2 : (parI g j)[k]? = some x := hj2
            have hbf : b1[x]? = some false := by rw [← hyt]; exact hy
            have hcs := cntF_set hbf
            refine ⟨(k + 1, b1.set x true, st1 ++ [x], none), [0, 1], ⟨by dsimp only; omega, dfk_new hk2 hj2 hjl, by simp; omega, (fun x hx => by cases hx)⟩, by dsimp only; omega, ?_⟩
            repeat' (first|((conv=>whnf); (first|refine brK_dec (fun _=>?_) (fun _=>?_)|refine brK_ndec (fun _=>?_) (fun _=>?_)|refine brK_not (fun _=>?_) (fun _=>?_)|refine brK_in (fun _=>?_) (fun _=>?_)|refine And.intro (by first|exact rfl|exact (by first|(rw [← brow_set]; simp; rfl)|exact rows_take rfl)|exact ⟨_,rfl,rfl⟩|exact ⟨rfl,rfl,rfl⟩|exact of_decide_eq_true rfl|exact trivial|assumption|omega|(show (_ ≤ _ ∧ _ ≤ _); omega)|(simp; omega)|exact ⟨by first|omega|(simp; omega),_,rfl,rfl⟩) ?_|refine Quo.l (And.intro (by first|exact rfl|exact (by first|(rw [← brow_set]; simp; rfl)|exact rows_take rfl)|assumption|omega|(simp; omega)) ?_)|refine Quo.r (And.intro (by omega) ?_)|refine Both.mk ?_ ?_|refine Exists.intro _ (And.intro rfl ?_)|refine rprow_use (by assumption) ?_|refine nrow_in par_bound (fun _ _ _ _ _=>?_)|refine Exists.intro _ (And.intro (at_own (hG2 _ _ (by assumption))) ?_)|refine opt_use (by assumption) ?_|refine brow_use (by assumption) ?_|refine brow_in (fun _ _=>?_)|refine fun _=>?_))|exact rfl)
          · rename_i h1 x u hj2 hu hjl y hy hyt
            have hj2 : (parI g j)[k]? = some x := hj2
            have hbt : b1[x]? = some true := by rw [← hyt]; exact hy
            refine ⟨(k + 1, b1, st1, some e), [0, 1], ⟨by dsimp only; omega, dfk_seen hk2 hj2 hbt, hk3, hk4⟩, by dsimp only; omega, ?_⟩
            repeat' (first|((conv=>whnf); (first|refine brK_dec (fun _=>?_) (fun _=>?_)|refine brK_ndec (fun _=>?_) (fun _=>?_)|refine brK_not (fun _=>?_) (fun _=>?_)|refine brK_in (fun _=>?_) (fun _=>?_)|refine And.intro (by first|exact rfl|exact ⟨_,rfl,rfl⟩|exact ⟨rfl,rfl,rfl⟩|exact of_decide_eq_true rfl|exact trivial|assumption|omega|(show (_ ≤ _ ∧ _ ≤ _); omega)|(simp; omega)|exact ⟨by first|omega|(simp; omega),_,rfl,rfl⟩) ?_|refine Quo.l (And.intro (by first|exact rfl|assumption|omega|(simp; omega)) ?_)|refine Quo.r (And.intro (by omega) ?_)|refine Both.mk ?_ ?_|refine Exists.intro _ (And.intro rfl ?_)|refine rprow_use (by assumption) ?_|refine nrow_in par_bound (fun _ _ _ _ _=>?_)|refine Exists.intro _ (And.intro (at_own (hG2 _ _ (by assumption))) ?_)|refine opt_use (by assumption) ?_|refine brow_use (by assumption) ?_|refine brow_in (fun _ _=>?_)|refine fun _=>?_))|exact rfl)
          · rename_i h1
            refine ⟨(b1, st1, some e), [0, 1], ⟨dfk_end hk2 (by omega), by dsimp only; omega, hk4⟩, by dsimp only; simp; omega, ?_⟩
            repeat' (first|((conv=>whnf); (first|refine brK_dec (fun _=>?_) (fun _=>?_)|refine brK_ndec (fun _=>?_) (fun _=>?_)|refine brK_not (fun _=>?_) (fun _=>?_)|refine brK_in (fun _=>?_) (fun _=>?_)|refine And.intro (by first|exact rfl|exact ⟨_,rfl,rfl⟩|exact ⟨rfl,rfl,rfl⟩|exact of_decide_eq_true rfl|exact trivial|assumption|omega|(show (_ ≤ _ ∧ _ ≤ _); omega)|(simp; omega)|exact ⟨by first|omega|(simp; omega),_,rfl,rfl⟩) ?_|refine Quo.l (And.intro (by first|exact rfl|assumption|omega|(simp; omega)) ?_)|refine Quo.r (And.intro (by omega) ?_)|refine Both.mk ?_ ?_|refine Exists.intro _ (And.intro rfl ?_)|refine rprow_use (by assumption) ?_|refine nrow_in par_bound (fun _ _ _ _ _=>?_)|refine Exists.intro _ (And.intro (at_own (hG2 _ _ (by assumption))) ?_)|refine opt_use (by assumption) ?_|refine brow_use (by assumption) ?_|refine brow_in (fun _ _=>?_)|refine fun _=>?_))|exact rfl)
      · rename_i h0
        exfalso
        simp at h0
end Go.Proofs.Ytalbgcpfekmfoaa
