/-
Linked graphs: a vertex is linked.
No conditions.
-/
import Derived.Test.YtenflffikgfphaaDoorWiA
namespace Go.Proofs.YtenflffikgfphaaDoor
open Go Go.Vc
set_option maxHeartbeats 4000000
set_option maxRecDepth 10000
abbrev rpRows (b : Nat) (l : List Nat) : List (List AV) := l.map fun j => [.rp (b + j) 0 0]
/-- The parents of a node, as they stand in its block. -/
def parC (b : Nat) : List Nat → AV
  | [] => .val (.slice none 0 0)
  | j :: l => .sl 1 (rpRows b (j :: l))
def nodeF (b : Nat) (g : List VxD) (i : Nat) (r a : Int) (p : List Int) (d : Int) : Fam := ⟨none, [[I r, I a, .ints p, I d, I i, parC b (p.filterMap fun x => findV g (r - 1) x)]]⟩
/-- The parents of v found in g, in the order of the list. -/
def parL (g : List VxD) (r : Int) (p : List Int) : List Nat := p.filterMap fun a => findV g (r - 1) a
theorem app_new {α : Type} {es : List α} {x : α} {t : List α} {X Y : Prop} (h : es = x :: t) (hy : Y) : (es = [] → X) ∧ (es ≠ [] → Y) := ⟨fun e => (by rw [h] at e; cases e), fun _ => hy⟩
theorem keep_link {c : List Int} {b : Nat} {g : List VxD} {rows : List (List AV)} {t : List AO} {x : Bool} : keepOf 2 (.cells (.ints c :: .own 1 :: plcs b g) :: .arr 1 rows :: t) (B x) = [] := by
  have h : refsO (.cells (.ints c :: .own 1 :: plcs b g)) = [1] := by
    show List.flatMap refsC _ = _
    rw [List.flatMap_cons, List.flatMap_cons, refs_pure plcs_pure]
    rfl
  have e : (List.take 2 (AO.cells (.ints c :: .own 1 :: plcs b g) :: .arr 1 rows :: t)).flatMap refsO = [1] := by
    rw [List.take_succ_cons, List.take_succ_cons, List.take_zero, List.flatMap_cons, List.flatMap_cons, h]
    rfl
  unfold keepOf
  rw [e]
  rfl
theorem splice_set {α : Type} {x y v : α} {l : List α} {m : Nat} (h : m < l.length) : splice (x :: y :: l) (2 + m) [v] = x :: y :: l.set m v := by
  unfold splice
  have e1 : 2 + m = (m + 1) + 1 := by omega
  have e2 : 2 + m + [v].length = (m + 1 + 1) + 1 := by simp; omega
  rw [e2, e1, List.take_succ_cons, List.take_succ_cons, List.drop_succ_cons, List.drop_succ_cons, List.set_eq_take_append_cons_drop, if_pos h]
  rfl
theorem plc_store {b n : Nat} {g : List VxD} {x y : AV} {r a d : Int} {p : List Int} (hn : n = b + g.length) (hr : 0 ≤ r ∧ r ≤ 30) (ha : 0 ≤ a ∧ a ≤ 6) (hf : findV g r a = none) :
    splice (x :: y :: plcs b g) (2 + r.toNat * 7 + a.toNat * 1) [.rp n 0 0] = x :: y :: plcs b (g ++ [⟨r, a, p, d⟩]) := by
  have e : 2 + r.toNat * 7 + a.toNat * 1 = 2 + (r.toNat * 7 + a.toNat) := by omega
  have hr2 : inR r 0 30 = true := by simp [inR]; omega
  have := plcs_set (b := b) (v := ⟨r, a, p, d⟩) hr2 ha hf
  rw [e, splice_set (by rw [plcs_len]; omega), hn, this]
theorem rows_snoc {b : Nat} {l : List Nat} {j : Nat} {X : List (List AV)} (h : X = [[.rp (b + j) 0 0]]) : rpRows b (l ++ [j]) = (rpRows b l).take (rpRows b l).length ++ X := by
  rw [List.take_length, h]
  simp [rpRows]
theorem rows_fin {b n m : Nat} {X : List (List AV)} (hn : n = b + m) (h : X = [[.rp n 0 0]]) : (rpRows b (List.range m)).take (rpRows b (List.range m)).length ++ X = rpRows b (List.range (m + 1)) := by
  rw [List.range_succ, rows_snoc (b := b) (l := List.range m) (j := m) (X := X) (by rw [h, hn])]
theorem parC_some {b : Nat} {l : List Nat} (h : 0 < l.length) : parC b l = .sl 1 (rpRows b l) := by
  cases l with
  | nil => simp at h
  | cons j l => rfl
theorem parL_snoc {g : List VxD} {r : Int} {p : List Int} {k j : Nat} {x : Int} (hx : p[k]? = some x) (hj : findV g (r - 1) x = some j) : parL g r (p.take (k + 1)) = parL g r (p.take k) ++ [j] := by
  unfold parL
  rw [List.take_add_one, hx, List.filterMap_append]
  simp [hj]
theorem parL_full {g : List VxD} {r : Int} {p : List Int} (h : ∀ (j : Nat) x, j < p.length → p[j]? = some x → (findV g (r - 1) x).isSome = true) : ∀ {k : Nat}, k ≤ p.length → (parL g r (p.take k)).length = k
  | 0, _ => by simp [parL]
  | k + 1, hk => by
    have hx : p[k]? = some (p[k]'(by omega)) := List.getElem?_eq_getElem (by omega)
    obtain ⟨i, hi⟩ := Option.isSome_iff_exists.1 (h k _ (by omega) hx)
    rw [parL_snoc hx hi, List.length_append, parL_full h (by omega)]
    rfl
theorem parL_len {g : List VxD} {r : Int} {p : List Int} : (parL g r p).length ≤ p.length := List.length_filterMap_le _ _
def c_impl_graph_link : Con := ⟨3, 1, true, fun xs hs Fs K => match xs, hs with
  | [.ptr 0 0, .agg [.val (.int .i64 r), .val (.int .i64 a), .ints p, .val (.int .i64 d)]], [.cells (.ints c :: .own 1 :: pl), .arr 1 rows] =>
    ∃ b g, pl = plcs b g ∧ rows = rpRows b (List.range g.length) ∧ Fs.length = b + g.length ∧ comV c = true ∧ gin c g ∧ vxV c ⟨r, a, p, d⟩ = true ∧ findV g r a = none ∧ g.length < 1000000 ∧ p.length < 2000000 ∧
      Both (parB g ⟨r, a, p, d⟩ = false → K (B false) [.cells (.ints c :: .own 1 :: plcs b g), .arr 1 (rpRows b (List.range g.length))] []) (parB g ⟨r, a, p, d⟩ = true → K (B true) [.cells (.ints c :: .own 1 :: plcs b (g ++ [⟨r, a, p, d⟩])), .arr 1 (rpRows b (List.range (g.length + 1)))]
        [nodeF b g g.length r a p d])
  | _, _ => False⟩
theorem k_impl_graph_link : Keeps' Tryd.prog 59 c_impl_graph_link := by
  refine keeps_of_vc mix TyT_ok (cok_cons k_impl_graph_at Tryd.func36 rfl rfl cok_nil) Tryd.func59 rfl rfl rfl ?_
  intro aargs hs Fs K h
  simp only [c_impl_graph_link] at h
  split at h
  case h_2 => exact h.elim
  rename_i r a p d c pl rows
  obtain ⟨b, g, rfl, rfl, hF, hc, hgi, hv, hn, hgl, hp, hno, hyes⟩ := h
  obtain ⟨hc1, hc2, hcx⟩ := com_out hc
  have hvo := vx_out hv
  have hr : 0 ≤ r ∧ r ≤ 30 := hvo.1
  have ha : 0 ≤ a ∧ a < c.length := hvo.2.1
  have hFe : (Fs ++ ([] : List Fam)).length = b + g.length := by simpa using hF
  have hst := plc_store (x := .ints c) (y := .own 1) (d := d) (p := p) hFe hr ⟨ha.1, by omega⟩ hn
  have fin : ∀ {R : List (List AV)} {q : AV}, R = rpRows b (List.range (g.length + 1)) → q = parC b (parL g r p) → (∀ (j : Nat) x, j < p.length → p[j]? = some x → (findV g (r - 1) x).isSome = true) →
      K (B true) [.cells (.ints c :: .own 1 :: plcs b (g ++ [⟨r, a, p, d⟩])), .arr 1 R] [⟨none, [[I r, I a, .ints p, I d, I g.length, q]]⟩] := by
    intro R q hR hq hall
    rw [hR, hq]
    exact hyes (par_yes (v := ⟨r, a, p, d⟩) fun k x hx => hall k x (List.getElem?_eq_some_iff.1 hx).1 hx)
  repeat' (first
    | ((conv => whnf); (first
      | refine draw_plan (id := 1) [] [] (.take 0 (.take 1 (.take 2 (.take 3 (.take 4 (.take 5 (.take 6 (.run 7 (.take 8 .done))))))))) (by kernel_rfl) (by kernel_rfl) ?_
      | refine draw_plan (id := 11) [] [10] (.take 0 (.take 1 (.take 2 (.take 3 (.take 4 (.take 5 (.take 6 (.take 7 (.take 8 (.take 9 (.run 10 .done))))))))))) (by kernel_rfl) (by kernel_rfl) ?_
      | refine Exists.intro [] (And.intro keep_link ?_)
      | refine brK_dec (fun _ => ?_) (fun _ => ?_)
      | refine brK_ndec (fun _ => ?_) (fun _ => ?_)
      | refine brK_not (fun _ => ?_) (fun _ => ?_)
      | refine brK_in (fun _ => ?_) (fun _ => ?_)
      | refine And.intro (by first | exact rfl | exact ⟨_, rfl, rfl⟩ | exact ⟨rfl, rfl, rfl⟩ | exact of_decide_eq_true rfl | exact trivial | assumption | omega | (show (_ ≤ _ ∧ _ ≤ _); omega) | (simp; omega) | exact ⟨by first | omega | (simp; omega), _, rfl, rfl⟩) ?_
      | refine Both.mk ?_ ?_
      | refine Exists.intro _ (And.intro rfl ?_)
      | refine app_new rfl ?_
      | refine litM_in ?_ rfl rfl rfl rfl rfl rfl rfl rfl rfl rfl rfl rfl rfl rfl rfl rfl
      | refine forceL_is (l' := plcs b g) rfl ?_
      | refine forceL_is (l' := plcs b (g ++ [⟨r, a, p, d⟩])) rfl ?_
      | refine forceL_is hst ?_
      | refine forceL_is plcs_map ?_
      | refine leEK_is plcs_map ?_
      | refine Exists.intro b (Exists.intro g (And.intro plcs_map ?_))
      | refine fun _ => ?_))
    | exact rfl)
  have hrl : (rpRows b (List.range g.length)).length = g.length := by simp
  refine loop_in (ι := Nat) (fun k => match k with
    | 0 => mkS 63 [(0, .ptr 0 0), (1, .agg [I r, I a, .ints p, I d]), (3, .ptr 2 0), (4, B false), (5, .ptr 3 0), (18, .ints p), (19, I p.length), (20, I 0)]
      [.cells (.ints c :: .own 1 :: plcs b g), .arr 1 (rpRows b (List.range g.length)), .cells [I r, I a, .ints p, I d], .cells [I r, I a, .ints p, I d, I g.length, .val (.slice none 0 0)]] Fs
    | k + 1 => mkS 63 [(0, .ptr 0 0), (1, .agg [I r, I a, .ints p, I d]), (3, .ptr 2 0), (4, B false), (5, .ptr 3 0), (18, .ints p), (19, I p.length), (20, I (k + 1 : Nat))]
      [.cells (.ints c :: .own 1 :: plcs b g), .arr 1 (rpRows b (List.range g.length)), .cells [I r, I a, .ints p, I d], .cells [I r, I a, .ints p, I d, I g.length, .own 4], .arr 1 (rpRows b (parL g r (p.take (k + 1))))] Fs)
    (fun k => k ≤ p.length ∧ ∀ (j : Nat) x, j < k → p[j]? = some x → (findV g (r - 1) x).isSome = true) (fun k => p.length - k) 0 [0, 1, 2, 3] ⟨Nat.zero_le _, fun j x hj => absurd hj (by omega)⟩ ?_ ?_
  · repeat' (first
      | ((conv => whnf); (first
        | refine Exists.intro [] (And.intro keep_link ?_)
        | refine brK_dec (fun _ => ?_) (fun _ => ?_)
        | refine brK_ndec (fun _ => ?_) (fun _ => ?_)
        | refine brK_not (fun _ => ?_) (fun _ => ?_)
        | refine brK_in (fun _ => ?_) (fun _ => ?_)
        | refine And.intro (by first | exact rfl | exact ⟨_, rfl, rfl⟩ | exact ⟨rfl, rfl, rfl⟩ | exact of_decide_eq_true rfl | exact trivial | assumption | omega | (show (_ ≤ _ ∧ _ ≤ _); omega) | (simp; omega) | exact ⟨by first | omega | (simp; omega), _, rfl, rfl⟩) ?_
        | refine Both.mk ?_ ?_
        | refine Exists.intro _ (And.intro rfl ?_)
        | refine app_new rfl ?_
        | refine litM_in ?_ rfl rfl rfl rfl rfl rfl rfl rfl rfl rfl rfl rfl rfl rfl rfl rfl
        | refine forceL_is (l' := plcs b g) rfl ?_
        | refine forceL_is (l' := plcs b (g ++ [⟨r, a, p, d⟩])) rfl ?_
        | refine forceL_is hst ?_
        | refine forceL_is plcs_map ?_
        | refine leEK_is plcs_map ?_
        | refine Exists.intro b (Exists.intro g (And.intro plcs_map ?_))
        | refine fun _ => ?_))
      | exact rfl)
  intro k ⟨hk, hall⟩
  cases k with
  | zero =>
    repeat' (first
      | ((conv => whnf); (first
        | refine draw_plan (id := 1) [] [] (.take 0 (.take 1 (.take 2 (.take 3 (.take 4 (.take 5 (.take 6 (.run 7 (.take 8 .done))))))))) (by kernel_rfl) (by kernel_rfl) ?_
        | refine draw_plan (id := 11) [] [10] (.take 0 (.take 1 (.take 2 (.take 3 (.take 4 (.take 5 (.take 6 (.take 7 (.take 8 (.take 9 (.run 10 .done))))))))))) (by kernel_rfl) (by kernel_rfl) ?_
        | refine Exists.intro [] (And.intro keep_link ?_)
        | refine brK_dec (fun _ => ?_) (fun _ => ?_)
        | refine brK_ndec (fun _ => ?_) (fun _ => ?_)
        | refine brK_not (fun _ => ?_) (fun _ => ?_)
        | refine brK_in (fun _ => ?_) (fun _ => ?_)
        | refine And.intro (by first | exact rfl | exact (by first | exact Nat.le_trans (Nat.mul_le_mul_right _ (show _ ≤ 2000001 from by simp [chunks]; omega)) (by decide) | (simp [chunks]; omega) | (simp [plcs_len]; omega)) | exact ⟨_, rfl, rfl⟩ | exact ⟨rfl, rfl, rfl⟩ | exact of_decide_eq_true rfl | exact trivial | assumption | omega | (show (_ ≤ _ ∧ _ ≤ _); omega) | (simp; omega) | exact ⟨by first | omega | (simp; omega), _, rfl, rfl⟩) ?_
        | refine Both.mk ?_ ?_
        | refine Exists.intro _ (And.intro rfl ?_)
        | refine app_new rfl ?_
        | refine litM_in ?_ rfl rfl rfl rfl rfl rfl rfl rfl rfl rfl rfl rfl rfl rfl rfl rfl
        | refine forceL_is (l' := plcs b g) rfl ?_
        | refine forceL_is (l' := plcs b (g ++ [⟨r, a, p, d⟩])) rfl ?_
        | refine forceL_is hst ?_
        | refine forceL_is plcs_map ?_
        | refine leEK_is plcs_map ?_
        | refine Exists.intro b (Exists.intro g (And.intro plcs_map ?_))
        | refine fun _ => ?_))
      | exact rfl)
    · rename_i h0 x hx hf
      have hx : p[0]? = some x := hx
      exact hno (par_no (v := ⟨r, a, p, d⟩) hx hf)
    · rename_i h0 x hx j hj
      have hx : p[0]? = some x := hx
      have e := parL_snoc (g := g) hx hj
      refine ⟨0 + 1, [0, 1, 2, 3, 5], ⟨by omega, fun i y hi hy => ?_⟩, by omega, ?_⟩
      · obtain rfl : i = 0 := by omega
        rw [hx] at hy
        cases hy
        rw [hj]; rfl
      repeat' (first
        | ((conv => whnf); (first
          | refine Exists.intro [] (And.intro keep_link ?_)
          | refine brK_dec (fun _ => ?_) (fun _ => ?_)
          | refine brK_ndec (fun _ => ?_) (fun _ => ?_)
          | refine brK_not (fun _ => ?_) (fun _ => ?_)
          | refine brK_in (fun _ => ?_) (fun _ => ?_)
          | refine And.intro (by first | exact rfl | exact (by rw [e]; simp [parL]; rfl) | exact ⟨_, rfl, rfl⟩ | exact ⟨rfl, rfl, rfl⟩ | exact of_decide_eq_true rfl | exact trivial | assumption | omega | (show (_ ≤ _ ∧ _ ≤ _); omega) | (simp; omega) | exact ⟨by first | omega | (simp; omega), _, rfl, rfl⟩) ?_
          | refine Both.mk ?_ ?_
          | refine Exists.intro _ (And.intro rfl ?_)
          | refine app_new rfl ?_
          | refine litM_in ?_ rfl rfl rfl rfl rfl rfl rfl rfl rfl rfl rfl rfl rfl rfl rfl rfl
          | refine forceL_is (l' := plcs b g) rfl ?_
          | refine forceL_is (l' := plcs b (g ++ [⟨r, a, p, d⟩])) rfl ?_
          | refine forceL_is hst ?_
          | refine forceL_is plcs_map ?_
          | refine leEK_is plcs_map ?_
          | refine Exists.intro b (Exists.intro g (And.intro plcs_map ?_))
          | refine fun _ => ?_))
        | exact rfl)
    · rename_i h0
      have hp0 : p = [] := List.eq_nil_of_length_eq_zero (by omega)
      subst hp0
      exact fin (R := _) (q := .val (.slice none 0 0)) (rows_fin hFe rfl) rfl (fun j x hj => absurd hj (by simp))
  | succ k =>
    have hpl : (parL g r (p.take (k + 1))).length ≤ k + 1 := Nat.le_trans parL_len (by simp; omega)
    repeat' (first
      | ((conv => whnf); (first
        | refine draw_plan (id := 1) [] [] (.take 0 (.take 1 (.take 2 (.take 3 (.take 4 (.take 5 (.take 6 (.run 7 (.take 8 .done))))))))) (by kernel_rfl) (by kernel_rfl) ?_
        | refine draw_plan (id := 11) [] [10] (.take 0 (.take 1 (.take 2 (.take 3 (.take 4 (.take 5 (.take 6 (.take 7 (.take 8 (.take 9 (.run 10 .done))))))))))) (by kernel_rfl) (by kernel_rfl) ?_
        | refine Exists.intro [] (And.intro keep_link ?_)
        | refine brK_dec (fun _ => ?_) (fun _ => ?_)
        | refine brK_ndec (fun _ => ?_) (fun _ => ?_)
        | refine brK_not (fun _ => ?_) (fun _ => ?_)
        | refine brK_in (fun _ => ?_) (fun _ => ?_)
        | refine And.intro (by first | exact rfl | exact (by first | exact Nat.le_trans (Nat.mul_le_mul_right _ (show _ ≤ 2000001 from by simp [chunks]; omega)) (by decide) | (simp [chunks]; omega) | (simp [plcs_len]; omega)) | exact ⟨_, rfl, rfl⟩ | exact ⟨rfl, rfl, rfl⟩ | exact of_decide_eq_true rfl | exact trivial | assumption | omega | (show (_ ≤ _ ∧ _ ≤ _); omega) | (simp; omega) | exact ⟨by first | omega | (simp; omega), _, rfl, rfl⟩) ?_
        | refine Both.mk ?_ ?_
        | refine Exists.intro _ (And.intro rfl ?_)
        | refine app_new rfl ?_
        | refine litM_in ?_ rfl rfl rfl rfl rfl rfl rfl rfl rfl rfl rfl rfl rfl rfl rfl rfl
        | refine forceL_is (l' := plcs b g) rfl ?_
        | refine forceL_is (l' := plcs b (g ++ [⟨r, a, p, d⟩])) rfl ?_
        | refine forceL_is hst ?_
        | refine forceL_is plcs_map ?_
        | refine leEK_is plcs_map ?_
        | refine Exists.intro b (Exists.intro g (And.intro plcs_map ?_))
        | refine fun _ => ?_))
      | exact rfl)
    · rename_i h0 x hx hf
      have hx : p[k + 1]? = some x := hx
      exact hno (par_no (v := ⟨r, a, p, d⟩) hx hf)
    · rename_i h0 x hx j hj
      have hx : p[k + 1]? = some x := hx
      have e := parL_snoc (g := g) hx hj
      refine ⟨k + 1 + 1, [0, 1, 2, 3, 4], ⟨by omega, fun i y hi hy => ?_⟩, by omega, ?_⟩
      · rcases Nat.lt_or_ge i (k + 1) with h1 | h1
        · exact hall i y h1 hy
        · obtain rfl : i = k + 1 := by omega
          rw [hx] at hy
          cases hy
          rw [hj]; rfl
      repeat' (first
        | ((conv => whnf); (first
          | refine Exists.intro [] (And.intro keep_link ?_)
          | refine brK_dec (fun _ => ?_) (fun _ => ?_)
          | refine brK_ndec (fun _ => ?_) (fun _ => ?_)
          | refine brK_not (fun _ => ?_) (fun _ => ?_)
          | refine brK_in (fun _ => ?_) (fun _ => ?_)
          | refine And.intro (by first | exact rfl | exact (by rw [e]; exact rows_snoc rfl) | exact ⟨_, rfl, rfl⟩ | exact ⟨rfl, rfl, rfl⟩ | exact of_decide_eq_true rfl | exact trivial | assumption | omega | (show (_ ≤ _ ∧ _ ≤ _); omega) | (simp; omega) | exact ⟨by first | omega | (simp; omega), _, rfl, rfl⟩) ?_
          | refine Both.mk ?_ ?_
          | refine Exists.intro _ (And.intro rfl ?_)
          | refine app_new rfl ?_
          | refine litM_in ?_ rfl rfl rfl rfl rfl rfl rfl rfl rfl rfl rfl rfl rfl rfl rfl rfl
          | refine forceL_is (l' := plcs b g) rfl ?_
          | refine forceL_is (l' := plcs b (g ++ [⟨r, a, p, d⟩])) rfl ?_
          | refine forceL_is hst ?_
          | refine forceL_is plcs_map ?_
          | refine leEK_is plcs_map ?_
          | refine Exists.intro b (Exists.intro g (And.intro plcs_map ?_))
          | refine fun _ => ?_))
        | exact rfl)
    · rename_i h0
      have hk2 : k + 1 = p.length := by omega
      have ht : p.take (k + 1) = p := by rw [hk2, List.take_length]
      have hl := parL_full (g := g) (r := r) (p := p) (fun j x hj hx => hall j x (by omega) hx) hk
      exact fin (rows_fin hFe rfl) (by rw [← parC_some (b := b) (by rw [hl]; omega), ht]) (fun j x hj hx => hall j x (by omega) hx)
end Go.Proofs.YtenflffikgfphaaDoor
