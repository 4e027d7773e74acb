/-
The next epoch by the program: contracts of its three steps.
No conditions.
-/
import Derived.Test.YtgfpcjomgmdapaaNxP
import Derived.Test.YtgfpcjomgmdapaaItA
import Derived.Test.YtgfpcjomgmdapaaDlA
import Derived.Test.YtgfpcjomgmdapaaCpA
namespace Go.Proofs.Ytgfpcjomgmdapaa
open Go Go.Vc
set_option maxHeartbeats 2000000
set_option maxRecDepth 10000
def rows2 (js : List (Int × Int)) : List (List AV) := js.map fun p => [I p.1, I p.2]
theorem rows2_len (js : List (Int × Int)) : (rows2 js).length = js.length := by simp [rows2]
theorem rows2_get {js : List (Int × Int)} {i : Nat} {e : List AV} (h : (rows2 js)[i]? = some e) : ∃ p, js[i]? = some p ∧ e = [I p.1, I p.2] := by
  rw [rows2, List.getElem?_map] at h
  obtain ⟨p, h1, h2⟩ := Option.map_eq_some_iff.1 h
  exact ⟨p, h1, h2.symm⟩
def dlN (c gs : List Int) (i : Nat) : List Int := delR c (gs.drop (gs.length - i))
theorem dlN_zero (c gs : List Int) : dlN c gs 0 = c := by simp [dlN, delR]
theorem dlN_all (c gs : List Int) : dlN c gs gs.length = delR c gs := by simp [dlN]
theorem dlN_lt {c gs : List Int} (ha : Asc c.length gs) {i : Nat} (h : i < gs.length) : 0 ≤ gs.getD (gs.length - 1 - i) 0 ∧ gs.getD (gs.length - 1 - i) 0 + 1 ≤ (dlN c gs i).length ∧ (dlN c gs i).length ≤ c.length := by
  have e : gs.length - (i + 1) < gs.length := by omega
  have e1 := List.drop_eq_getElem_cons e
  have e2 : gs.length - (i + 1) + 1 = gs.length - i := by omega
  have e3 : gs.getD (gs.length - 1 - i) 0 = gs[gs.length - (i + 1)] := by
    have : gs.length - 1 - i = gs.length - (i + 1) := by omega
    rw [this]; simp [List.getD, e]
  obtain ⟨_, _, g3⟩ := delR_len (asc_drop ha (gs.length - (i + 1)))
  obtain ⟨g4, g5, _⟩ := delR_len (asc_drop ha (gs.length - i))
  have g6 := g3 (gs[gs.length - (i + 1)]) (by rw [e1]; rfl)
  rw [List.length_drop] at g6
  have g7 := (ha.2 _ (List.getElem_mem e)).1
  have g8 : (dlN c gs i).length = c.length - (gs.length - (gs.length - i)) := by unfold dlN; rw [g4, List.length_drop]
  rw [e3]
  refine ⟨g7, ?_, ?_⟩ <;> omega
theorem dlN_succ {c gs : List Int} (ha : Asc c.length gs) {i : Nat} (h : i < gs.length) : dlN c gs (i + 1) = (dlN c gs i).take (gs.getD (gs.length - 1 - i) 0).toNat ++ (dlN c gs i).drop ((gs.getD (gs.length - 1 - i) 0) + 1).toNat := by
  have h0 := (dlN_lt ha h).1
  unfold dlN
  rw [foldr_drop h]
  unfold del
  have e : ((gs.getD (gs.length - 1 - i) 0) + 1).toNat = (gs.getD (gs.length - 1 - i) 0).toNat + 1 := by omega
  rw [e]
def c_impl_change_expel : Con := ⟨0, 1, true, fun xs hs _ K => match xs, hs with
  | [.ptr 0 0], [.cells [.val (.int .i64 n), .own 1, .own 2, .val (.int .i64 r), .ints gs, .sl 2 js, .val (.int .i64 r2)], .iarr c, .iarr k] =>
    gs.length < 2000000 ∧ c.length < 2000000 ∧ k.length = c.length ∧
      K (B (comV c && memV c gs)) [.cells [I n, .own 1, .own 2, I r, .ints gs, .sl 2 js, I r2], .iarr (if comV c && memV c gs then delR c gs else c), .iarr (if comV c && memV c gs then delR k gs else k)] []
  | _, _ => False⟩
theorem k_impl_change_expel : Keeps' Try.prog 34 c_impl_change_expel := by
  refine keeps_of_vc mix TyT_ok (cok_iter (cok_cons k_impl_MembersValid Try.func50 rfl rfl (cok_cons k_slices_Backward Try.func55 rfl rfl (cok_cons k_slices_Delete Try.func56 rfl rfl cok_nil))) back_enter back_ok) Try.func34 rfl rfl rfl ?_
  intro aargs hs Fs K h
  simp only [c_impl_change_expel] at h
  split at h
  case h_2 => exact h.elim
  rename_i n r gs js r2 c k
  obtain ⟨h1, h2, h3, h⟩ := h
  repeat' (first
    | ((conv => whnf); (first
      | refine draw_plan (id := 1) [] [] (.take 0 (.take 1 (.take 2 (.take 3 (.take 4 (.take 5 (.take 6 (.take 7 (.take 8 (.run 9 (.take 10 .done))))))))))) (by kernel_rfl) (by kernel_rfl) ?_
      | refine draw_plan (id := 5) [] [13] (.take 0 (.take 1 (.take 2 (.take 3 (.take 4 (.take 5 (.take 6 (.take 7 (.take 8 (.run 9 (.take 10 (.take 11 (.take 12 (.run 13 .done)))))))))))))) (by kernel_rfl) (by kernel_rfl) ?_
      | refine draw_plan (id := 6) [] [13] (.take 0 (.take 1 (.take 2 (.take 3 (.take 4 (.take 5 (.take 6 (.take 7 (.take 8 (.run 9 (.take 10 (.take 11 (.take 12 (.run 13 .done)))))))))))))) (by kernel_rfl) (by kernel_rfl) ?_
      | refine brK_dec (fun _ => ?_) (fun _ => ?_)
      | refine brK_ndec (fun _ => ?_) (fun _ => ?_)
      | refine brK_not (fun _ => ?_) (fun _ => ?_)
      | refine brK_in (fun _ => ?_) (fun _ => ?_)
      | refine And.intro (by first | exact rfl | exact ⟨_, rfl, rfl⟩ | exact ⟨rfl, rfl, rfl⟩ | exact of_decide_eq_true rfl | exact trivial | assumption | omega | (show (_ ≤ _ ∧ _ ≤ _); omega) | (simp; omega) | exact ⟨by first | omega | (simp; omega), _, rfl, rfl⟩) ?_
      | refine Both.mk ?_ ?_
      | refine Exists.intro _ (And.intro rfl ?_)
      | refine fun _ => ?_))
    | exact rfl)
  · rename_i hb
    simp only [hb] at h
    exact h
  rename_i hb
  simp only [hb, if_true] at h
  have ha : Asc c.length gs := memV_asc (by simp at hb; exact hb.2)
  have hak : Asc k.length gs := by rw [h3]; exact ha
  conv => whnf
  refine range_rule (ι := Unit) 69 4 (.ints gs) itBack gs.length (fun i => [.int .i64 ((gs.length : Int) - 1 - i), .int .i64 (gs.getD (gs.length - 1 - i) 0)]) (fun _ => .ints gs)
    (fun i _ => mkS 49 [(1, .ptr 3 0), (2, B false)] [.cells [I n, .own 1, .own 2, I r, .ints gs, .sl 2 js, I r2], .iarr (dlN c gs i), .iarr (dlN k gs i), .cells [.ptr 0 0], .cells [.ints gs]] Fs)
    (fun i _ => i ≤ gs.length) () [0, 1, 2, 3, 4] rfl rfl rfl ⟨gs, rfl, rfl, by omega, rfl, rfl⟩ rfl (fun _ => rfl) (Nat.zero_le _) rfl ?_ (fun _ _ _ => Nat.le_of_ble_eq_true rfl) (fun _ _ _ => rfl) ?_ ?_
  · repeat' (first
      | ((conv => whnf); (first
        | refine brK_dec (fun _ => ?_) (fun _ => ?_)
        | refine brK_ndec (fun _ => ?_) (fun _ => ?_)
        | refine brK_not (fun _ => ?_) (fun _ => ?_)
        | refine brK_in (fun _ => ?_) (fun _ => ?_)
        | refine And.intro (by first | exact rfl | exact (dlN_zero _ _) | exact ⟨_, rfl, rfl⟩ | exact ⟨rfl, rfl, rfl⟩ | exact of_decide_eq_true rfl | exact trivial | assumption | omega | (show (_ ≤ _ ∧ _ ≤ _); omega) | (simp; omega) | exact ⟨by first | omega | (simp; omega), _, rfl, rfl⟩) ?_
        | refine Both.mk ?_ ?_
        | refine Exists.intro _ (And.intro rfl ?_)
        | refine fun _ => ?_))
      | exact rfl)
  · intro i _ hi hle
    obtain ⟨g0, g1, g2⟩ := dlN_lt ha hi
    obtain ⟨_, g3, g4⟩ := dlN_lt hak hi
    have e1 := dlN_succ ha hi
    have e2 := dlN_succ hak hi
    generalize gs.getD (gs.length - 1 - i) 0 = g at *
    repeat' (first
      | ((conv => whnf); (first
        | refine draw_plan (id := 1) [] [] (.take 0 (.take 1 (.take 2 (.take 3 (.take 4 (.take 5 (.take 6 (.take 7 (.take 8 (.run 9 (.take 10 .done))))))))))) (by kernel_rfl) (by kernel_rfl) ?_
        | refine draw_plan (id := 5) [1] [13] (.take 0 (.take 1 (.take 2 (.take 3 (.take 4 (.take 5 (.take 6 (.take 7 (.take 8 (.run 9 (.take 10 (.take 11 (.take 12 (.run 13 .done)))))))))))))) (by kernel_rfl) (by kernel_rfl) ?_
        | refine draw_plan (id := 6) [2] [13] (.take 0 (.take 1 (.take 2 (.take 3 (.take 4 (.take 5 (.take 6 (.take 7 (.take 8 (.run 9 (.take 10 (.take 11 (.take 12 (.run 13 .done)))))))))))))) (by kernel_rfl) (by kernel_rfl) ?_
        | refine brK_dec (fun _ => ?_) (fun _ => ?_)
        | refine brK_ndec (fun _ => ?_) (fun _ => ?_)
        | refine brK_not (fun _ => ?_) (fun _ => ?_)
        | refine brK_in (fun _ => ?_) (fun _ => ?_)
        | refine And.intro (by first | exact rfl | exact ⟨_, rfl, rfl⟩ | exact ⟨rfl, rfl, rfl⟩ | exact of_decide_eq_true rfl | exact trivial | assumption | omega | (show (_ ≤ _ ∧ _ ≤ _); omega) | (simp; omega) | exact ⟨by first | omega | (simp; omega), _, rfl, rfl⟩) ?_
        | refine Both.mk ?_ ?_
        | refine Exists.intro _ (And.intro rfl ?_)
        | refine fun _ => ?_))
      | exact rfl)
    refine ⟨(), [0, 1, 2, 3, 4], hi, rfl, ?_⟩
    repeat' (first
      | ((conv => whnf); (first
        | refine brK_dec (fun _ => ?_) (fun _ => ?_)
        | refine brK_ndec (fun _ => ?_) (fun _ => ?_)
        | refine brK_not (fun _ => ?_) (fun _ => ?_)
        | refine brK_in (fun _ => ?_) (fun _ => ?_)
        | refine And.intro (by first | exact rfl | exact (by first | exact e1 | exact e2) | exact ⟨_, rfl, rfl⟩ | exact ⟨rfl, rfl, rfl⟩ | exact of_decide_eq_true rfl | exact trivial | assumption | omega | (show (_ ≤ _ ∧ _ ≤ _); omega) | (simp; omega) | exact ⟨by first | omega | (simp; omega), _, rfl, rfl⟩) ?_
        | refine Both.mk ?_ ?_
        | refine Exists.intro _ (And.intro rfl ?_)
        | refine fun _ => ?_))
      | exact rfl)
  · intro _ _
    rw [dlN_all, dlN_all]
    repeat' (first
      | ((conv => whnf); (first
        | refine brK_dec (fun _ => ?_) (fun _ => ?_)
        | refine brK_ndec (fun _ => ?_) (fun _ => ?_)
        | refine brK_not (fun _ => ?_) (fun _ => ?_)
        | refine brK_in (fun _ => ?_) (fun _ => ?_)
        | refine And.intro (by first | exact rfl | exact ⟨_, rfl, rfl⟩ | exact ⟨rfl, rfl, rfl⟩ | exact of_decide_eq_true rfl | exact trivial | assumption | omega | (show (_ ≤ _ ∧ _ ≤ _); omega) | (simp; omega) | exact ⟨by first | omega | (simp; omega), _, rfl, rfl⟩) ?_
        | refine Both.mk ?_ ?_
        | refine Exists.intro _ (And.intro rfl ?_)
        | refine fun _ => ?_))
      | exact rfl)
    exact h
end Go.Proofs.Ytgfpcjomgmdapaa
