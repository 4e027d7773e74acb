/-
Linked graphs: the whole graph is linked.
No conditions.
-/
import Derived.Test.YtenflffikgfphaaDoorWiC
import Derived.Test.YtenflffikgfphaaDoorVcMH
namespace Go.Proofs.YtenflffikgfphaaDoor
open Go Go.Vc
set_option maxHeartbeats 4000000
set_option maxRecDepth 10000
theorem refs_nil {c : List Int} {b : Nat} {g : List VxD} : refsO (.cells (.ints c :: .val (.slice none 0 0) :: plcs b g)) = [] := by
  show List.flatMap refsC _ = _
  rw [List.flatMap_cons, List.flatMap_cons, refs_pure plcs_pure]
  rfl
theorem refs_own {c : List Int} {b : Nat} {g : List VxD} : refsO (.cells (.ints c :: .own 1 :: plcs b g)) = [1] := by
  show List.flatMap refsC _ = _
  rw [List.flatMap_cons, List.flatMap_cons, refs_pure plcs_pure]
  rfl
theorem pass_nil {c p : List Int} {b : Nat} {g : List VxD} {t : List AO} {r a d : Int} : passOf 1 (listH (.cells (.ints c :: .val (.slice none 0 0) :: plcs b g) :: t)) [.ptr 0 0, .agg [I r, I a, .ints p, I d]] = [0] := by
  have e : dedup (List.flatMap refsA (List.filter isPtr [.ptr 0 0, .agg [I r, I a, .ints p, I d]])) = [0] := rfl
  show dedup (dedup _ ++ (dedup _).flatMap _) = _
  rw [e]
  show dedup ([0] ++ (refsO (.cells (.ints c :: .val (.slice none 0 0) :: plcs b g)) ++ [])) = _
  rw [refs_nil]
  rfl
theorem pass_own {c p : List Int} {b : Nat} {g : List VxD} {t : List AO} {r a d : Int} : passOf 1 (listH (.cells (.ints c :: .own 1 :: plcs b g) :: t)) [.ptr 0 0, .agg [I r, I a, .ints p, I d]] = [0, 1] := by
  have e : dedup (List.flatMap refsA (List.filter isPtr [.ptr 0 0, .agg [I r, I a, .ints p, I d]])) = [0] := rfl
  show dedup (dedup _ ++ (dedup _).flatMap _) = _
  rw [e]
  show dedup ([0] ++ (refsO (.cells (.ints c :: .own 1 :: plcs b g)) ++ [])) = _
  rw [refs_own]
  rfl
theorem keepg_nil {c : List Int} {b : Nat} {g : List VxD} {t : List AO} : keepOf 0 (.cells (.ints c :: .val (.slice none 0 0) :: plcs b g) :: t) (.tup [.ptr 0 0, B true]) = [0] := by
  have e : (dedup (refsR (.tup [.ptr 0 0, B true]) ++ (List.take 0 (AO.cells (.ints c :: .val (.slice none 0 0) :: plcs b g) :: t)).flatMap refsO)).filter (fun k => decide (0 ≤ k)) = [0] := rfl
  unfold keepOf
  rw [e]
  show List.filter _ (dedup ([0] ++ (refsO (.cells (.ints c :: .val (.slice none 0 0) :: plcs b g)) ++ []))) = _
  rw [refs_nil]
  rfl
theorem keepg_own {c : List Int} {b : Nat} {g : List VxD} {t : List AO} : keepOf 0 (.cells (.ints c :: .own 1 :: plcs b g) :: t) (.tup [.ptr 0 0, B true]) = [0, 1] := by
  have e : (dedup (refsR (.tup [.ptr 0 0, B true]) ++ (List.take 0 (AO.cells (.ints c :: .own 1 :: plcs b g) :: t)).flatMap refsO)).filter (fun k => decide (0 ≤ k)) = [0] := rfl
  unfold keepOf
  rw [e]
  show List.filter _ (dedup ([0] ++ (refsO (.cells (.ints c :: .own 1 :: plcs b g)) ++ []))) = _
  rw [refs_own]
  rfl
theorem appK_in : ∀ {l r : List Fam} {k : List Fam → Prop}, k (l ++ r) → appK l r k
  | [], _, _, h => h
  | _ :: t, _, _, h => appK_in (l := t) h
theorem appK_is {l r l' : List Fam} {k : List Fam → Prop} (e : l ++ r = l') (h : k l') : appK l r k := appK_in (by rw [e]; exact h)
/-- Vertex k is as it must be behind those ahead of it. -/
def lnk (c : List Int) (g : List VxD) (k : Nat) : Prop := ∀ v, g[k]? = some v → vxV c v = true ∧ parB (g.take k) v = true ∧ ∀ u, 0 < k → g[k - 1]? = some u → u.lt v
theorem find_pre : ∀ {g : List VxD} {n : Nat} {r a : Int} {i : Nat}, findV (g.take n) r a = some i → findV g r a = some i
  | [], n, r, a, i, h => by simp [findV] at h
  | v :: g, 0, r, a, i, h => by simp [findV] at h
  | v :: g, n + 1, r, a, i, h => by
    rw [List.take_succ_cons] at h
    unfold findV at h ⊢
    split at h
    · rename_i e; rw [if_pos e]; exact h
    · rename_i e
      rw [if_neg e]
      obtain ⟨j, hj, rfl⟩ := Option.map_eq_some_iff.1 h
      rw [find_pre hj]
      rfl
theorem lnk_sorted {c : List Int} {g : List VxD} {i : Nat} (h : ∀ k, k < i → lnk c g k) : sortedV (g.take i) := by
  refine sorted_of_next fun k u v hu hv => ?_
  rw [List.getElem?_take] at hu hv
  split at hv
  · rename_i hk
    rw [if_pos (by omega)] at hu
    exact (h (k + 1) hk v hv).2.2 u (by omega) (by simpa using hu)
  · cases hv
theorem vx_in {c : List Int} {v : VxD} (h : vxV c v = true) : inR v.r 0 30 = true ∧ inR v.a 0 ((c.length : Int) - 1) = true := by
  unfold vxV at h
  simp only [Bool.and_eq_true] at h
  exact ⟨h.1, h.2.1⟩
theorem lnk_gin {c : List Int} {g : List VxD} {i : Nat} (h : ∀ k, k < i → lnk c g k) : gin c (g.take i) := by
  intro v hv
  obtain ⟨k, hk⟩ := List.mem_iff_getElem?.1 hv
  rw [List.getElem?_take] at hk
  split at hk
  · exact vx_in (h k (by assumption) v hk).1
  · cases hk
theorem lnk_new {c : List Int} {g : List VxD} {i : Nat} {v : VxD} (h : ∀ k, k < i → lnk c g k) (hv : g[i]? = some v) (hl : ∀ u, 0 < i → g[i - 1]? = some u → u.lt v) : findV (g.take i) v.r v.a = none := by
  have hs : sortedV (g.take (i + 1)) := by
    refine sorted_of_next fun k u w hu hw => ?_
    rw [List.getElem?_take] at hu hw
    split at hw
    · rename_i hk
      rw [if_pos (by omega)] at hu
      rcases Nat.lt_or_ge (k + 1) i with h1 | h1
      · exact (h (k + 1) h1 w hw).2.2 u (by omega) (by simpa using hu)
      · obtain rfl : i = k + 1 := by omega
        rw [hv] at hw
        cases hw
        exact hl u (by omega) (by simpa using hu)
    · cases hw
  cases hf : findV (g.take i) v.r v.a with
  | none => rfl
  | some j =>
    obtain ⟨u, hu, e1, e2⟩ := find_out hf
    rw [List.getElem?_take] at hu
    split at hu
    · have := hs j i u v (by assumption) (by rw [List.getElem?_take, if_pos (by omega)]; exact hu) (by rw [List.getElem?_take, if_pos (by omega)]; exact hv)
      unfold VxD.lt at this
      omega
    · cases hu
theorem par_pre {g : List VxD} {n : Nat} {v : VxD} (h : parB (g.take n) v = true) : parB g v = true := by
  unfold parB at h ⊢
  rw [List.all_eq_true] at h ⊢
  intro x hx
  obtain ⟨j, hj⟩ := Option.isSome_iff_exists.1 (h x hx)
  rw [find_pre hj]
  rfl
theorem lnk_yes {c : List Int} {g : List VxD} (hc : comV c = true) (h : ∀ k, k < g.length → lnk c g k) : gV c g = true := by
  refine gV_yes hc fun i hi => ?_
  have hv : g[i]? = some g[i] := List.getElem?_eq_getElem hi
  obtain ⟨h1, h2, h3⟩ := h i hi _ hv
  rcases Nat.eq_zero_or_pos i with rfl | h0
  · rw [gc_first hv, h1, par_pre h2]; rfl
  · have hu : g[i - 1]? = some (g[i - 1]'(by omega)) := List.getElem?_eq_getElem (by omega)
    rw [gc_next h0 hv hu, h1, par_pre h2, ltB_iff.2 (h3 _ h0 hu)]
    rfl
theorem lnk_no {c : List Int} {g : List VxD} {i : Nat} {v : VxD} (hv : g[i]? = some v) (h : vxV c v = false ∨ parB (g.take i) v = false ∨ ∃ u, 0 < i ∧ g[i - 1]? = some u ∧ ltB u v = false) : gV c g = false := by
  cases e : gV c g with
  | false => rfl
  | true =>
    obtain ⟨h1, h2, h3⟩ := gV_cell e hv
    rcases h with h | h | ⟨u, h0, hu, h⟩
    · rw [h1] at h; cases h
    · unfold parB at h2 h
      rw [List.all_eq_true] at h2
      rw [List.all_eq_false] at h
      obtain ⟨x, hx, h⟩ := h
      obtain ⟨j, hj⟩ := Option.isSome_iff_exists.1 (h2 x hx)
      rw [(par_ahead (gV_sorted e) hv).2 hj] at h
      exact absurd rfl h
    · rw [ltB_iff.2 (h3 u h0 hu)] at h
      cases h
def nodeG (b : Nat) (g : List VxD) (i : Nat) : Fam := match g[i]? with
  | some v => nodeF b (g.take i) i v.r v.a v.p v.d
  | none => ⟨none, []⟩
def nodeFs (b : Nat) (g : List VxD) (k : Nat) : List Fam := (List.range k).map (nodeG b g)
theorem nodeFs_len {b : Nat} {g : List VxD} {k : Nat} : (nodeFs b g k).length = k := by simp [nodeFs]
theorem nodeFs_snoc {b : Nat} {g : List VxD} {k : Nat} {v : VxD} (hv : g[k]? = some v) : nodeFs b g k ++ [nodeF b (g.take k) k v.r v.a v.p v.d] = nodeFs b g (k + 1) := by
  unfold nodeFs
  rw [List.range_succ, List.map_append, List.map_singleton, nodeG, hv]
def c_impl_linkGraph0 : Con := ⟨2, 0, true, fun xs hs Fs K => match xs with
  | [.ints c, .sl 4 rows] => hs = [] ∧ ∃ g : List VxD, rows = g.map VxD.row ∧ c.length < 2000000 ∧ g.length < 1000000 ∧ (∀ v ∈ g, v.p.length < 2000000) ∧
      Both (gV c g = false → ∀ f, K (.tup [nilP, B false]) [] f) (gV c g = true → (g = [] → K (.tup [.ptr 0 0, B true]) [.cells (.ints c :: .val (.slice none 0 0) :: plcs Fs.length [])] []) ∧
        (g ≠ [] → K (.tup [.ptr 0 0, B true]) [.cells (.ints c :: .own 1 :: plcs Fs.length g), .arr 1 (rpRows Fs.length (List.range g.length))] (nodeFs Fs.length g g.length)))
  | _ => False⟩
theorem k_impl_linkGraph_n : Keeps' Tryd.prog 35 c_impl_linkGraph0 := by
  refine keeps_of_vc mix TyT_ok (cok_cons k_impl_CommitteeValid Tryd.func56 rfl rfl (cok_cons k_impl_VertexValid Tryd.func57 rfl rfl (cok_cons k_impl_precedes Tryd.func58 rfl rfl (cok_cons (keeps_alt k_impl_graph_link k_impl_graph_link_n (by decide) rfl) Tryd.func59 rfl rfl cok_nil)))) Tryd.func35 rfl rfl rfl ?_
  intro aargs hs Fs K h
  simp only [c_impl_linkGraph0] at h
  split at h
  case h_2 => exact h.elim
  rename_i c rows
  obtain ⟨rfl, g, rfl, hcl, hg, hp, hno, hyes⟩ := h
  have hlen : (g.map VxD.row).length = g.length := by simp
  repeat' (first
    | ((conv => whnf); (first
      | refine draw_plan (id := 7) [] [] (.take 0 (.take 1 (.run 2 (.take 3 (.take 4 (.take 5 (.take 6 (.take 7 (.take 8 (.take 9 (.take 10 (.take 11 (.take 12 (.take 13 (.run 14 (.take 15 (.take 16 (.take 17 (.take 18 (.take 19 (.take 20 (.run 21 (.take 22 (.take 23 .done)))))))))))))))))))))))) (by kernel_rfl) (by kernel_rfl) ?_
      | refine Exists.intro [0] (And.intro pass_nil ?_)
      | refine Exists.intro [0, 1] (And.intro pass_own ?_)
      | refine Exists.intro [0] (And.intro keepg_nil ?_)
      | refine Exists.intro [0, 1] (And.intro keepg_own ?_)
      | refine brK_dec (fun _ => ?_) (fun _ => ?_)
      | refine brK_ndec (fun _ => ?_) (fun _ => ?_)
      | refine brK_not (fun _ => ?_) (fun _ => ?_)
      | refine brK_in (fun _ => ?_) (fun _ => ?_)
      | refine And.intro (by first | exact rfl | exact ⟨_, rfl, rfl⟩ | exact ⟨rfl, rfl, rfl⟩ | exact of_decide_eq_true rfl | exact trivial | assumption | omega | (show (_ ≤ _ ∧ _ ≤ _); omega) | (simp; omega) | exact ⟨by first | omega | (simp; omega), _, rfl, rfl⟩) ?_
      | refine Both.mk ?_ ?_
      | refine Exists.intro _ (And.intro rfl ?_)
      | refine opt_use (by assumption) ?_
      | refine vrow_use (by assumption) ?_
      | refine vrow_in (fun _ _ => ?_)
      | refine appK_in ?_
      | refine forceL_is plcs_map ?_
      | refine forceL_is (l' := plcs _ _) rfl ?_
      | refine leEK_is plcs_map ?_
      | refine leEK_is plcs_nil.symm ?_
      | refine fun _ => ?_))
    | exact rfl)
  · rename_i hc
    exact hno (gV_com hc) _
  rename_i hc
  refine loop_in (ι := Nat) (fun k => match k with
    | 0 => ⟨mkE 0 48 [(0, .ints c), (1, .sl 4 (g.map VxD.row)), (4, nilP), (5, B false), (6, .ptr 0 0), (15, .sl 4 (g.map VxD.row)), (16, I (g.map VxD.row).length), (17, I 0)],
      [.cells (.ints c :: .val (.slice none 0 0) :: plcs Fs.length [])], Fs, []⟩
    | k + 1 => ⟨mkE 0 48 [(0, .ints c), (1, .sl 4 (g.map VxD.row)), (4, nilP), (5, B false), (6, .ptr 0 0), (15, .sl 4 (g.map VxD.row)), (16, I (g.map VxD.row).length), (17, I (k + 1 : Nat))],
      [.cells (.ints c :: .own 1 :: plcs Fs.length (g.take (k + 1))), .arr 1 (rpRows Fs.length (List.range (k + 1)))], Fs, nodeFs Fs.length g (k + 1)⟩)
    (fun k => k ≤ g.length ∧ ∀ j, j < k → lnk c g j) (fun k => g.length - k) 0 [0] ⟨Nat.zero_le _, fun j hj => absurd hj (by omega)⟩ ?_ ?_
  · repeat' (first
      | ((conv => whnf); (first
        | refine Exists.intro [0] (And.intro pass_nil ?_)
        | refine Exists.intro [0, 1] (And.intro pass_own ?_)
        | refine Exists.intro [0] (And.intro keepg_nil ?_)
        | refine Exists.intro [0, 1] (And.intro keepg_own ?_)
        | refine brK_dec (fun _ => ?_) (fun _ => ?_)
        | refine brK_ndec (fun _ => ?_) (fun _ => ?_)
        | refine brK_not (fun _ => ?_) (fun _ => ?_)
        | refine brK_in (fun _ => ?_) (fun _ => ?_)
        | refine And.intro (by first | exact rfl | exact ⟨_, rfl, rfl⟩ | exact ⟨rfl, rfl, rfl⟩ | exact of_decide_eq_true rfl | exact trivial | assumption | omega | (show (_ ≤ _ ∧ _ ≤ _); omega) | (simp; omega) | exact ⟨by first | omega | (simp; omega), _, rfl, rfl⟩) ?_
        | refine Both.mk ?_ ?_
        | refine Exists.intro _ (And.intro rfl ?_)
        | refine opt_use (by assumption) ?_
        | refine vrow_use (by assumption) ?_
        | refine vrow_in (fun _ _ => ?_)
        | refine appK_in ?_
        | refine forceL_is plcs_map ?_
        | refine forceL_is (l' := plcs _ _) rfl ?_
        | refine leEK_is plcs_map ?_
        | refine leEK_is plcs_nil.symm ?_
        | refine fun _ => ?_))
      | exact rfl)
  intro k ⟨hk, hall⟩
  cases k with
  | zero =>
    repeat' (first
      | ((conv => whnf); (first
        | refine draw_plan (id := 7) [0] [] (.take 0 (.take 1 (.run 2 (.take 3 (.take 4 (.take 5 (.take 6 (.take 7 (.take 8 (.take 9 (.take 10 (.take 11 (.take 12 (.take 13 (.run 14 (.take 15 (.take 16 (.take 17 (.take 18 (.take 19 (.take 20 (.run 21 (.take 22 (.take 23 .done)))))))))))))))))))))))) (by kernel_rfl) (by kernel_rfl) ?_
        | refine Exists.intro [0] (And.intro pass_nil ?_)
        | refine Exists.intro [0, 1] (And.intro pass_own ?_)
        | refine Exists.intro [0] (And.intro keepg_nil ?_)
        | refine Exists.intro [0, 1] (And.intro keepg_own ?_)
        | refine brK_dec (fun _ => ?_) (fun _ => ?_)
        | refine brK_ndec (fun _ => ?_) (fun _ => ?_)
        | refine brK_not (fun _ => ?_) (fun _ => ?_)
        | refine brK_in (fun _ => ?_) (fun _ => ?_)
        | refine And.intro (by first | exact rfl | exact (by first | exact hp _ (List.mem_of_getElem? (by assumption))) | exact ⟨_, rfl, rfl⟩ | exact ⟨rfl, rfl, rfl⟩ | exact of_decide_eq_true rfl | exact trivial | assumption | omega | (show (_ ≤ _ ∧ _ ≤ _); omega) | (simp; omega) | exact ⟨by first | omega | (simp; omega), _, rfl, rfl⟩) ?_
        | refine Both.mk ?_ ?_
        | refine Exists.intro _ (And.intro rfl ?_)
        | refine opt_use (by assumption) ?_
        | refine vrow_use (by assumption) ?_
        | refine vrow_in (fun _ _ => ?_)
        | refine appK_in ?_
        | refine forceL_is plcs_map ?_
        | refine forceL_is (l' := plcs _ _) rfl ?_
        | refine leEK_is plcs_map ?_
        | refine leEK_is plcs_nil.symm ?_
        | refine fun _ => ?_))
      | exact rfl)
    · rename_i h0 v hv e
      refine hno (lnk_no (i := 0) hv (.inl ?_)) _
      rw [hc, Bool.true_and] at e
      exact e
    · rename_i h0 v hv e
      have hv : g[0]? = some v := hv
      have hvx : vxV c v = true := by
        rw [hc, Bool.true_and] at e
        exact e
      have hpl := hp v (List.mem_of_getElem? hv)
      refine Or.inr ?_
      refine ⟨Fs.length, plcs_map, by simp, hc, hvx, hpl, Both.mk (fun q => ?_) (fun q => ?_)⟩
      · repeat' (first
          | ((conv => whnf); (first
            | refine Exists.intro [0] (And.intro pass_nil ?_)
            | refine Exists.intro [0, 1] (And.intro pass_own ?_)
            | refine Exists.intro [0] (And.intro keepg_nil ?_)
            | refine Exists.intro [0, 1] (And.intro keepg_own ?_)
            | refine brK_dec (fun _ => ?_) (fun _ => ?_)
            | refine brK_ndec (fun _ => ?_) (fun _ => ?_)
            | refine brK_not (fun _ => ?_) (fun _ => ?_)
            | refine brK_in (fun _ => ?_) (fun _ => ?_)
            | refine And.intro (by first | exact rfl | exact ⟨_, rfl, rfl⟩ | exact ⟨rfl, rfl, rfl⟩ | exact of_decide_eq_true rfl | exact trivial | assumption | omega | (show (_ ≤ _ ∧ _ ≤ _); omega) | (simp; omega) | exact ⟨by first | omega | (simp; omega), _, rfl, rfl⟩) ?_
            | refine Both.mk ?_ ?_
            | refine Exists.intro _ (And.intro rfl ?_)
            | refine opt_use (by assumption) ?_
            | refine vrow_use (by assumption) ?_
            | refine vrow_in (fun _ _ => ?_)
            | refine appK_in ?_
            | refine forceL_is plcs_map ?_
            | refine forceL_is (l' := plcs _ _) rfl ?_
            | refine leEK_is plcs_map ?_
            | refine leEK_is plcs_nil.symm ?_
            | refine fun _ => ?_))
          | exact rfl)
        exact hno (lnk_no (i := 0) hv (.inr (.inl q))) _
      · repeat' (first
          | ((conv => whnf); (first
            | refine Exists.intro [0] (And.intro pass_nil ?_)
            | refine Exists.intro [0, 1] (And.intro pass_own ?_)
            | refine Exists.intro [0] (And.intro keepg_nil ?_)
            | refine Exists.intro [0, 1] (And.intro keepg_own ?_)
            | refine brK_dec (fun _ => ?_) (fun _ => ?_)
            | refine brK_ndec (fun _ => ?_) (fun _ => ?_)
            | refine brK_not (fun _ => ?_) (fun _ => ?_)
            | refine brK_in (fun _ => ?_) (fun _ => ?_)
            | refine And.intro (by first | exact rfl | exact ⟨_, rfl, rfl⟩ | exact ⟨rfl, rfl, rfl⟩ | exact of_decide_eq_true rfl | exact trivial | assumption | omega | (show (_ ≤ _ ∧ _ ≤ _); omega) | (simp; omega) | exact ⟨by first | omega | (simp; omega), _, rfl, rfl⟩) ?_
            | refine Both.mk ?_ ?_
            | refine Exists.intro _ (And.intro rfl ?_)
            | refine opt_use (by assumption) ?_
            | refine vrow_use (by assumption) ?_
            | refine vrow_in (fun _ _ => ?_)
            | refine appK_in ?_
            | refine forceL_is plcs_map ?_
            | refine forceL_is (l' := plcs _ _) rfl ?_
            | refine leEK_is plcs_map ?_
            | refine leEK_is plcs_nil.symm ?_
            | refine fun _ => ?_))
          | exact rfl)
        refine ⟨0 + 1, [0, 2], ⟨by omega, fun j hj => ?_⟩, by omega, ?_⟩
        · obtain rfl : j = 0 := by omega
          intro u hu
          rw [hv] at hu
          cases hu
          exact ⟨hvx, q, fun u h => absurd h (by omega)⟩
        have e1 : g.take (0 + 1) = [v] := by rw [List.take_add_one, hv]; rfl
        have e2 : plcs Fs.length (g.take (0 + 1)) = plcs Fs.length [⟨v.r, v.a, v.p, v.d⟩] := by rw [e1]
        have e3 : nodeFs Fs.length g (0 + 1) = [nodeF Fs.length [] 0 v.r v.a v.p v.d] := by rw [← nodeFs_snoc hv]; rfl
        repeat' (first
          | ((conv => whnf); (first
            | refine Exists.intro [0] (And.intro pass_nil ?_)
            | refine Exists.intro [0, 1] (And.intro pass_own ?_)
            | refine Exists.intro [0] (And.intro keepg_nil ?_)
            | refine Exists.intro [0, 1] (And.intro keepg_own ?_)
            | refine brK_dec (fun _ => ?_) (fun _ => ?_)
            | refine brK_ndec (fun _ => ?_) (fun _ => ?_)
            | refine brK_not (fun _ => ?_) (fun _ => ?_)
            | refine brK_in (fun _ => ?_) (fun _ => ?_)
            | refine And.intro (by first | exact rfl | exact ⟨_, rfl, rfl⟩ | exact ⟨rfl, rfl, rfl⟩ | exact of_decide_eq_true rfl | exact trivial | assumption | omega | (show (_ ≤ _ ∧ _ ≤ _); omega) | (simp; omega) | exact ⟨by first | omega | (simp; omega), _, rfl, rfl⟩) ?_
            | refine Both.mk ?_ ?_
            | refine Exists.intro _ (And.intro rfl ?_)
            | refine leEK_is (plcs_map.trans e2.symm) ?_
            | refine appK_in ?_
            | refine forceL_is plcs_map ?_
            | refine forceL_is (l' := plcs _ _) rfl ?_
            | refine fun _ => ?_))
          | exact rfl)
        exact e3
    · rename_i h0
      have hg0 : g = [] := List.eq_nil_of_length_eq_zero (by omega)
      subst hg0
      exact (hyes (lnk_yes hc fun k hk => absurd hk (by simp))).1 rfl
  | succ k =>
    repeat' (first
      | ((conv => whnf); (first
        | refine draw_plan (id := 7) [0,1] [] (.take 0 (.take 1 (.run 2 (.take 3 (.take 4 (.take 5 (.take 6 (.take 7 (.take 8 (.take 9 (.take 10 (.take 11 (.take 12 (.take 13 (.run 14 (.take 15 (.take 16 (.take 17 (.take 18 (.take 19 (.take 20 (.run 21 (.take 22 (.take 23 .done)))))))))))))))))))))))) (by kernel_rfl) (by kernel_rfl) ?_
        | refine Exists.intro [0] (And.intro pass_nil ?_)
        | refine Exists.intro [0, 1] (And.intro pass_own ?_)
        | refine Exists.intro [0] (And.intro keepg_nil ?_)
        | refine Exists.intro [0, 1] (And.intro keepg_own ?_)
        | refine brK_dec (fun _ => ?_) (fun _ => ?_)
        | refine brK_ndec (fun _ => ?_) (fun _ => ?_)
        | refine brK_not (fun _ => ?_) (fun _ => ?_)
        | refine brK_in (fun _ => ?_) (fun _ => ?_)
        | refine And.intro (by first | exact rfl | exact (by first | exact hp _ (List.mem_of_getElem? (by assumption))) | exact ⟨_, rfl, rfl⟩ | exact ⟨rfl, rfl, rfl⟩ | exact of_decide_eq_true rfl | exact trivial | assumption | omega | (show (_ ≤ _ ∧ _ ≤ _); omega) | (simp; omega) | exact ⟨by first | omega | (simp; omega), _, rfl, rfl⟩) ?_
        | refine Both.mk ?_ ?_
        | refine Exists.intro _ (And.intro rfl ?_)
        | refine opt_use (by assumption) ?_
        | refine vrow_use (by assumption) ?_
        | refine vrow_in (fun _ _ => ?_)
        | refine appK_in ?_
        | refine forceL_is plcs_map ?_
        | refine forceL_is (l' := plcs _ _) rfl ?_
        | refine fun _ => ?_))
      | exact rfl)
    · rename_i h0 v hv e
      refine hno (lnk_no (i := k + 1) hv (.inl ?_)) _
      rw [hc, Bool.true_and] at e
      exact e
    · rename_i h0 v hv e h1 u hu hlt
      have hu : g[k + 1 - 1]? = some u := by rw [show k + 1 - 1 = (((k + 1 : Nat) : Int) - 1).toNat by omega]; exact hu
      exact hno (lnk_no (i := k + 1) hv (.inr (.inr ⟨u, by omega, hu, hlt⟩))) _
    · rename_i h0 v hv e h1 u hu hlt
      have hv : g[k + 1]? = some v := hv
      have hu : g[k + 1 - 1]? = some u := by rw [show k + 1 - 1 = (((k + 1 : Nat) : Int) - 1).toNat by omega]; exact hu
      have hlt : u.lt v := ltB_iff.1 hlt
      have hvx : vxV c v = true := by
        rw [hc, Bool.true_and] at e
        exact e
      have hpl := hp v (List.mem_of_getElem? hv)
      have hl : ∀ w, 0 < k + 1 → g[k + 1 - 1]? = some w → w.lt v := fun w _ hw => by rw [hu] at hw; cases hw; exact hlt
      have htl : (g.take (k + 1)).length = k + 1 := by simp; omega
      refine Or.inl ⟨Fs.length, g.take (k + 1), plcs_map, by rw [htl], by simp [nodeFs_len]; omega, hc, lnk_gin hall, hvx, lnk_new hall hv hl, by omega, hpl, Both.mk (fun q => ?_) (fun q => ?_)⟩
      · repeat' (first
          | ((conv => whnf); (first
            | refine Exists.intro [0] (And.intro pass_nil ?_)
            | refine Exists.intro [0, 1] (And.intro pass_own ?_)
            | refine Exists.intro [0] (And.intro keepg_nil ?_)
            | refine Exists.intro [0, 1] (And.intro keepg_own ?_)
            | refine brK_dec (fun _ => ?_) (fun _ => ?_)
            | refine brK_ndec (fun _ => ?_) (fun _ => ?_)
            | refine brK_not (fun _ => ?_) (fun _ => ?_)
            | refine brK_in (fun _ => ?_) (fun _ => ?_)
            | refine And.intro (by first | exact rfl | exact ⟨_, rfl, rfl⟩ | exact ⟨rfl, rfl, rfl⟩ | exact of_decide_eq_true rfl | exact trivial | assumption | omega | (show (_ ≤ _ ∧ _ ≤ _); omega) | (simp; omega) | exact ⟨by first | omega | (simp; omega), _, rfl, rfl⟩) ?_
            | refine Both.mk ?_ ?_
            | refine Exists.intro _ (And.intro rfl ?_)
            | refine opt_use (by assumption) ?_
            | refine vrow_use (by assumption) ?_
            | refine vrow_in (fun _ _ => ?_)
            | refine appK_in ?_
            | refine forceL_is plcs_map ?_
            | refine forceL_is (l' := plcs _ _) rfl ?_
            | refine fun _ => ?_))
          | exact rfl)
        exact hno (lnk_no (i := k + 1) hv (.inr (.inl q))) _
      · repeat' (first
          | ((conv => whnf); (first
            | refine Exists.intro [0] (And.intro pass_nil ?_)
            | refine Exists.intro [0, 1] (And.intro pass_own ?_)
            | refine Exists.intro [0] (And.intro keepg_nil ?_)
            | refine Exists.intro [0, 1] (And.intro keepg_own ?_)
            | refine brK_dec (fun _ => ?_) (fun _ => ?_)
            | refine brK_ndec (fun _ => ?_) (fun _ => ?_)
            | refine brK_not (fun _ => ?_) (fun _ => ?_)
            | refine brK_in (fun _ => ?_) (fun _ => ?_)
            | refine And.intro (by first | exact rfl | exact ⟨_, rfl, rfl⟩ | exact ⟨rfl, rfl, rfl⟩ | exact of_decide_eq_true rfl | exact trivial | assumption | omega | (show (_ ≤ _ ∧ _ ≤ _); omega) | (simp; omega) | exact ⟨by first | omega | (simp; omega), _, rfl, rfl⟩) ?_
            | refine Both.mk ?_ ?_
            | refine Exists.intro _ (And.intro rfl ?_)
            | refine opt_use (by assumption) ?_
            | refine vrow_use (by assumption) ?_
            | refine vrow_in (fun _ _ => ?_)
            | refine appK_in ?_
            | refine forceL_is plcs_map ?_
            | refine forceL_is (l' := plcs _ _) rfl ?_
            | refine fun _ => ?_))
          | exact rfl)
        refine ⟨k + 1 + 1, [0, 1], ⟨by omega, fun j hj => ?_⟩, by omega, ?_⟩
        · rcases Nat.lt_or_ge j (k + 1) with h1 | h1
          · exact hall j h1
          · obtain rfl : j = k + 1 := by omega
            intro w hw
            rw [hv] at hw
            cases hw
            exact ⟨hvx, q, hl⟩
        have e1 : g.take (k + 1 + 1) = g.take (k + 1) ++ [v] := by rw [List.take_add_one, hv]; rfl
        have e2 : plcs Fs.length (g.take (k + 1 + 1)) = plcs Fs.length (g.take (k + 1) ++ [⟨v.r, v.a, v.p, v.d⟩]) := by rw [e1]
        have e3 : nodeFs Fs.length g (k + 1 + 1) = nodeFs Fs.length g (k + 1) ++ [] ++ [] ++ [nodeF Fs.length (g.take (k + 1)) (g.take (k + 1)).length v.r v.a v.p v.d] := by rw [← nodeFs_snoc hv, htl]; simp
        repeat' (first
          | ((conv => whnf); (first
            | refine Exists.intro [0] (And.intro pass_nil ?_)
            | refine Exists.intro [0, 1] (And.intro pass_own ?_)
            | refine Exists.intro [0] (And.intro keepg_nil ?_)
            | refine Exists.intro [0, 1] (And.intro keepg_own ?_)
            | refine brK_dec (fun _ => ?_) (fun _ => ?_)
            | refine brK_ndec (fun _ => ?_) (fun _ => ?_)
            | refine brK_not (fun _ => ?_) (fun _ => ?_)
            | refine brK_in (fun _ => ?_) (fun _ => ?_)
            | refine And.intro (by first | exact rfl | exact (by rw [htl]) | exact ⟨_, rfl, rfl⟩ | exact ⟨rfl, rfl, rfl⟩ | exact of_decide_eq_true rfl | exact trivial | assumption | omega | (show (_ ≤ _ ∧ _ ≤ _); omega) | (simp; omega) | exact ⟨by first | omega | (simp; omega), _, rfl, rfl⟩) ?_
            | refine Both.mk ?_ ?_
            | refine Exists.intro _ (And.intro rfl ?_)
            | refine leEK_is (plcs_map.trans e2.symm) ?_
            | refine appK_in ?_
            | refine forceL_is plcs_map ?_
            | refine forceL_is (l' := plcs _ _) rfl ?_
            | refine fun _ => ?_))
          | exact rfl)
        exact e3
    · rename_i h0 v hv e h1
      omega
    · rename_i h0
      have hk2 : k + 1 = g.length := by omega
      have ht : g.take (k + 1) = g := by rw [hk2, List.take_length]
      have h2 := (hyes (lnk_yes hc fun j hj => hall j (by omega))).2 (by intro e; subst e; simp at hk2)
      rw [ht, hk2]
      exact h2
end Go.Proofs.YtenflffikgfphaaDoor
