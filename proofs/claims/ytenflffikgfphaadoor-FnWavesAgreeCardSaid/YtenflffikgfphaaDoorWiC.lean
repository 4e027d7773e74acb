/-
Linked graphs: the first vertex is linked.
No conditions.
-/
import Derived.Test.YtenflffikgfphaaDoorWiB
namespace Go.Proofs.YtenflffikgfphaaDoor
open Go Go.Vc
set_option maxHeartbeats 4000000
set_option maxRecDepth 10000
def c_impl_graph_link_n : Con := ⟨3, 1, true, fun xs hs Fs K => match xs, hs with
  | [.ptr 0 0, .agg [.val (.int .i64 r), .val (.int .i64 a), .ints p, .val (.int .i64 d)]], [.cells (.ints c :: .val (.slice none 0 0) :: pl)] =>
    ∃ b, pl = plcs b [] ∧ Fs.length = b ∧ comV c = true ∧ vxV c ⟨r, a, p, d⟩ = true ∧ p.length < 2000000 ∧
      Both (parB [] ⟨r, a, p, d⟩ = false → K (B false) [.cells (.ints c :: .val (.slice none 0 0) :: plcs b [])] []) (parB [] ⟨r, a, p, d⟩ = true → K (B true) [.cells (.ints c :: .own 1 :: plcs b [⟨r, a, p, d⟩]), .arr 1 (rpRows b (List.range 1))] [nodeF b [] 0 r a p d])
  | _, _ => False⟩
theorem keep_nil {c : List Int} {b : Nat} {g : List VxD} {t : List AO} {x : Bool} : keepOf 1 (.cells (.ints c :: .val (.slice none 0 0) :: plcs b g) :: t) (B x) = [] := by
  have h : refsO (.cells (.ints c :: .val (.slice none 0 0) :: plcs b g)) = [] := by
    show List.flatMap refsC _ = _
    rw [List.flatMap_cons, List.flatMap_cons, refs_pure plcs_pure]
    rfl
  have e : (List.take 1 (AO.cells (.ints c :: .val (.slice none 0 0) :: plcs b g) :: t)).flatMap refsO = [] := by
    rw [List.take_succ_cons, List.take_zero, List.flatMap_cons, h]
    rfl
  unfold keepOf
  rw [e]
  rfl
theorem keep_first {c : List Int} {b j : Nat} {g : List VxD} {t : List AO} {x : Bool} {rows : List (List AV)} (hj : 1 ≤ j) (ht : listH (.cells (.ints c :: .own j :: plcs b g) :: t) j = .arr 1 rows) : keepOf 1 (.cells (.ints c :: .own j :: plcs b g) :: t) (B x) = [j] := by
  have h : refsO (.cells (.ints c :: .own j :: plcs b g)) = [j] := by
    show List.flatMap refsC _ = _
    rw [List.flatMap_cons, List.flatMap_cons, refs_pure plcs_pure]
    rfl
  have e : (List.take 1 (AO.cells (.ints c :: .own j :: plcs b g) :: t)).flatMap refsO = [j] := by
    rw [List.take_succ_cons, List.take_zero, List.flatMap_cons, h]
    rfl
  have e2 : dedup (refsR (B x) ++ [j]) = [j] := rfl
  have e3 : List.filter (fun k => decide (1 ≤ k)) [j] = [j] := by simp [hj]
  unfold keepOf
  rw [e, e2, e3]
  simp only [List.flatMap_cons, List.flatMap_nil, ht, refsO, List.append_nil]
  show List.filter _ (dedup [j]) = _
  exact e3
theorem k_impl_graph_link_n : Keeps' Tryd.prog 59 c_impl_graph_link_n := by
  refine keeps_of_vc mix TyT_ok (cok_cons k_impl_graph_at Tryd.func36 rfl rfl cok_nil) Tryd.func59 rfl rfl rfl ?_
  intro aargs hs Fs K h
  simp only [c_impl_graph_link_n] at h
  split at h
  case h_2 => exact h.elim
  rename_i r a p d c pl
  obtain ⟨b, rfl, hF, hc, hv, hp, hno, hyes⟩ := h
  obtain ⟨hc1, hc2, hcx⟩ := com_out hc
  have hvo := vx_out hv
  have hr : 0 ≤ r ∧ r ≤ 30 := hvo.1
  have ha : 0 ≤ a ∧ a < c.length := hvo.2.1
  have hgi : gin c [] := fun v hv => by simp at hv
  have hFe : (Fs ++ ([] : List Fam)).length = b + ([] : List VxD).length := by simpa using hF
  have hn : findV [] r a = none := rfl
  have hst : ∀ j, splice (AV.ints c :: .own j :: plcs b []) (2 + r.toNat * 7 + a.toNat * 1) [.rp (Fs ++ ([] : List Fam)).length 0 0] = .ints c :: .own j :: plcs b ([] ++ [⟨r, a, p, d⟩]) := fun j => plc_store (x := .ints c) (y := .own j) (d := d) (p := p) hFe hr ⟨ha.1, by omega⟩ hn
  repeat' (first
    | ((conv => whnf); (first
      | refine draw_plan (id := 1) [] [] (.take 0 (.take 1 (.take 2 (.take 3 (.take 4 (.take 5 (.take 6 (.run 7 (.take 8 .done))))))))) (by kernel_rfl) (by kernel_rfl) ?_
      | refine draw_plan (id := 11) [] [10] (.take 0 (.take 1 (.take 2 (.take 3 (.take 4 (.take 5 (.take 6 (.take 7 (.take 8 (.take 9 (.run 10 .done))))))))))) (by kernel_rfl) (by kernel_rfl) ?_
      | refine Exists.intro [] (And.intro keep_nil ?_)
      | refine Exists.intro [_] (And.intro (keep_first (by decide) rfl) ?_)
      | refine brK_dec (fun _ => ?_) (fun _ => ?_)
      | refine brK_ndec (fun _ => ?_) (fun _ => ?_)
      | refine brK_not (fun _ => ?_) (fun _ => ?_)
      | refine brK_in (fun _ => ?_) (fun _ => ?_)
      | refine And.intro (by first | exact rfl | exact ⟨_, rfl, rfl⟩ | exact ⟨rfl, rfl, rfl⟩ | exact of_decide_eq_true rfl | exact trivial | assumption | omega | (show (_ ≤ _ ∧ _ ≤ _); omega) | (simp; omega) | exact ⟨by first | omega | (simp; omega), _, rfl, rfl⟩) ?_
      | refine Both.mk ?_ ?_
      | refine Exists.intro _ (And.intro rfl ?_)
      | refine app_new rfl ?_
      | refine litM_in ?_ rfl rfl rfl rfl rfl rfl rfl rfl rfl rfl rfl rfl rfl rfl rfl rfl
      | refine forceL_is (l' := plcs b []) rfl ?_
      | refine forceL_is (l' := plcs b ([] ++ [⟨r, a, p, d⟩])) rfl ?_
      | refine forceL_is (hst _) ?_
      | refine forceL_is plcs_map ?_
      | refine leEK_is plcs_map ?_
      | refine Exists.intro b (Exists.intro [] (And.intro plcs_map ?_))
      | refine fun _ => ?_))
    | exact rfl)
  refine loop_in (ι := Unit) (fun _ => mkS 63 [(0, .ptr 0 0), (1, .agg [I r, I a, .ints p, I d]), (3, .ptr 1 0), (4, B false), (5, .ptr 2 0), (18, .ints p), (19, I p.length), (20, I 0)]
      [.cells (.ints c :: .val (.slice none 0 0) :: plcs b []), .cells [I r, I a, .ints p, I d], .cells [I r, I a, .ints p, I d, I 0, .val (.slice none 0 0)]] Fs)
    (fun _ => True) (fun _ => 0) () [0, 1, 2] trivial ?_ ?_
  · repeat' (first
      | ((conv => whnf); (first
        | refine Exists.intro [] (And.intro keep_nil ?_)
        | refine Exists.intro [_] (And.intro (keep_first (by decide) rfl) ?_)
        | refine brK_dec (fun _ => ?_) (fun _ => ?_)
        | refine brK_ndec (fun _ => ?_) (fun _ => ?_)
        | refine brK_not (fun _ => ?_) (fun _ => ?_)
        | refine brK_in (fun _ => ?_) (fun _ => ?_)
        | refine And.intro (by first | exact rfl | exact ⟨_, rfl, rfl⟩ | exact ⟨rfl, rfl, rfl⟩ | exact of_decide_eq_true rfl | exact trivial | assumption | omega | (show (_ ≤ _ ∧ _ ≤ _); omega) | (simp; omega) | exact ⟨by first | omega | (simp; omega), _, rfl, rfl⟩) ?_
        | refine Both.mk ?_ ?_
        | refine Exists.intro _ (And.intro rfl ?_)
        | refine app_new rfl ?_
        | refine litM_in ?_ rfl rfl rfl rfl rfl rfl rfl rfl rfl rfl rfl rfl rfl rfl rfl rfl
        | refine forceL_is (l' := plcs b []) rfl ?_
        | refine forceL_is (l' := plcs b ([] ++ [⟨r, a, p, d⟩])) rfl ?_
        | refine forceL_is (hst _) ?_
        | refine forceL_is plcs_map ?_
        | refine leEK_is plcs_map ?_
        | refine Exists.intro b (Exists.intro [] (And.intro plcs_map ?_))
        | refine fun _ => ?_))
      | exact rfl)
  intro _ _
  repeat' (first
    | ((conv => whnf); (first
      | refine draw_plan (id := 1) [] [] (.take 0 (.take 1 (.take 2 (.take 3 (.take 4 (.take 5 (.take 6 (.run 7 (.take 8 .done))))))))) (by kernel_rfl) (by kernel_rfl) ?_
      | refine draw_plan (id := 11) [] [10] (.take 0 (.take 1 (.take 2 (.take 3 (.take 4 (.take 5 (.take 6 (.take 7 (.take 8 (.take 9 (.run 10 .done))))))))))) (by kernel_rfl) (by kernel_rfl) ?_
      | refine Exists.intro [] (And.intro keep_nil ?_)
      | refine Exists.intro [_] (And.intro (keep_first (by decide) rfl) ?_)
      | refine brK_dec (fun _ => ?_) (fun _ => ?_)
      | refine brK_ndec (fun _ => ?_) (fun _ => ?_)
      | refine brK_not (fun _ => ?_) (fun _ => ?_)
      | refine brK_in (fun _ => ?_) (fun _ => ?_)
      | refine And.intro (by first | exact rfl | exact (by first | exact Nat.le_trans (Nat.mul_le_mul_right _ (show _ ≤ 2000001 from by simp [chunks])) (by decide) | (simp [chunks]; done) | (simp [plcs_len]; omega)) | exact ⟨_, rfl, rfl⟩ | exact ⟨rfl, rfl, rfl⟩ | exact of_decide_eq_true rfl | exact trivial | assumption | omega | (show (_ ≤ _ ∧ _ ≤ _); omega) | (simp; omega) | exact ⟨by first | omega | (simp; omega), _, rfl, rfl⟩) ?_
      | refine Both.mk ?_ ?_
      | refine Exists.intro _ (And.intro rfl ?_)
      | refine app_new rfl ?_
      | refine litM_in ?_ rfl rfl rfl rfl rfl rfl rfl rfl rfl rfl rfl rfl rfl rfl rfl rfl
      | refine forceL_is (l' := plcs b []) rfl ?_
      | refine forceL_is (l' := plcs b ([] ++ [⟨r, a, p, d⟩])) rfl ?_
      | refine forceL_is (hst _) ?_
      | refine forceL_is plcs_map ?_
      | refine leEK_is plcs_map ?_
      | refine Exists.intro b (Exists.intro [] (And.intro plcs_map ?_))
      | refine fun _ => ?_))
    | exact rfl)
  · rename_i h0 x hx hf
    have hx : p[0]? = some x := hx
    exact hno (par_no (v := ⟨r, a, p, d⟩) hx hf)
  · have hz := ‹findV [] (r - 1) _ = some _›
    cases hz
  · rename_i h0
    have hp0 : p = [] := List.eq_nil_of_length_eq_zero (by omega)
    subst hp0
    have fin : ∀ {R : List (List AV)}, R = rpRows b (List.range 1) → K (B true) [.cells (.ints c :: .own 1 :: plcs b ([] ++ [⟨r, a, [], d⟩])), .arr 1 R] [⟨none, [[I r, I a, .ints [], I d, I 0, .val (.slice none 0 0)]]⟩] := by
      intro R hR
      rw [hR]
      exact hyes rfl
    exact fin (rows_fin (m := 0) hFe rfl)
end Go.Proofs.YtenflffikgfphaaDoor
