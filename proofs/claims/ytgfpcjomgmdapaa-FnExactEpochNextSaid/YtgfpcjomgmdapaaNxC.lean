/-
The next epoch by the program.
No conditions.
-/
import Derived.Test.YtgfpcjomgmdapaaNxB
namespace Go.Proofs.Ytgfpcjomgmdapaa
open Go Go.Vc
set_option maxHeartbeats 4000000
set_option maxRecDepth 10000
/-- What the next epoch is: its committee and keys. -/
def nxC (c gs : List Int) (js : List (Int × Int)) : List Int := keepN c gs c.length ++ fsts js
def nxK (k gs : List Int) (js : List (Int × Int)) : List Int := keepN k gs k.length ++ snds js
def nxV (n : Int) (c k : List Int) (r : Int) (gs : List Int) (js : List (Int × Int)) (r2 : Int) : Bool := EpV n c k r && (memV c gs && EpV (n + 1) (nxC c gs js) (nxK k gs js) r2)
theorem epV_out {n : Int} {c k : List Int} {r : Int} (h : EpV n c k r = true) : 0 ≤ n ∧ n ≤ 99 ∧ comV c = true ∧ c.length ≤ 7 ∧ k.length = c.length := by
  simp only [EpV, keysV, comV, inR, Bool.and_eq_true, decide_eq_true_eq] at h
  obtain ⟨⟨_, ⟨⟨h1, h2⟩, h3⟩⟩, ⟨h4, h5⟩, _⟩ := h
  refine ⟨h4, h5, ?_, by omega, h3⟩
  simp only [comV, inR, Bool.and_eq_true, decide_eq_true_eq]
  exact ⟨h1, h2⟩
theorem nx_js {n : Int} {c k : List Int} {r : Int} {gs : List Int} {js : List (Int × Int)} {r2 : Int} (h : nxV n c k r gs js r2 = true) : js.length ≤ 7 := by
  simp only [nxV, Bool.and_eq_true] at h
  have := (epV_out h.2.2).2.2.2.1
  simp only [nxC, fsts, List.length_append, List.length_map] at this
  omega
/-- The four states of the loop over the steps: committee and keys. -/
def stC (c gs : List Int) (js : List (Int × Int)) : Nat → List Int
  | 0 => c
  | 1 => delR c gs
  | _ => delR c gs ++ fsts js
def stK (k gs : List Int) (js : List (Int × Int)) : Nat → List Int
  | 0 => k
  | 1 => delR k gs
  | _ => delR k gs ++ snds js
def stN (n : Int) : Nat → Int
  | 3 => n + 1
  | _ => n
def stR (r r2 : Int) : Nat → Int
  | 3 => r2
  | _ => r
def c_impl_EpochNext : Con := ⟨2, 0, false, fun xs hs _ K => match xs with
  | [.agg [.val (.int .i64 n), .ints c, .ints k, .val (.int .i64 r)], .ints gs, .sl 2 l, .val (.int .i64 r2)] =>
    ∃ js, l = rows2 js ∧ hs = [] ∧ c.length < 2000000 ∧ k.length < 2000000 ∧ gs.length < 2000000 ∧ js.length < 1900000 ∧
      (nxV n c k r gs js r2 = true → K (.tup [.agg [I (n + 1), .own 0, .own 1, I r2], B true]) [.iarr (nxC c gs js), .iarr (nxK k gs js)] []) ∧
      (nxV n c k r gs js r2 = false → K (.tup [.agg [I 0, .val (.slice none 0 0), .val (.slice none 0 0), I 0], B false]) [] [])
  | _ => False⟩
theorem k_impl_EpochNext : Keeps' Try.prog 13 c_impl_EpochNext := by
  refine keeps_of_vc mix TyT_ok (cok_cons k_impl_EpochValid Try.func25 rfl rfl (cok_cons k_impl_cloneEpoch Try.func33 rfl rfl (cok_cons k_impl_change_expel Try.func34 rfl rfl (cok_cons k_impl_change_admit Try.func35 rfl rfl (cok_cons k_impl_change_advance Try.func36 rfl rfl cok_nil))))) Try.func13 rfl rfl rfl ?_
  intro aargs hs Fs K h
  simp only [c_impl_EpochNext] at h
  split at h
  case h_2 => exact h.elim
  rename_i n c k r gs l r2
  obtain ⟨js, rfl, rfl, h1, h2, h3, h4, hy, hn⟩ := h
  repeat' (first
    | ((conv => whnf); (first
      | refine brK_dec (fun _ => ?_) (fun _ => ?_)
      | refine brK_ndec (fun _ => ?_) (fun _ => ?_)
      | refine brK_not (fun _ => ?_) (fun _ => ?_)
      | refine brK_in (fun _ => ?_) (fun _ => ?_)
      | refine And.intro (by first | exact rfl | exact ⟨_, rfl, rfl⟩ | exact ⟨rfl, rfl, rfl⟩ | exact of_decide_eq_true rfl | exact trivial | assumption | omega | (show (_ ≤ _ ∧ _ ≤ _); omega) | (simp; omega) | exact ⟨by first | omega | (simp; omega), _, rfl, rfl⟩) ?_
      | refine Both.mk ?_ ?_
      | refine Exists.intro _ (And.intro rfl ?_)
      | refine fun _ => ?_))
    | exact rfl)
  · rename_i hv
    exact hn (by simp [nxV, hv])
  rename_i hv
  obtain ⟨q1, q2, q3, q4, q5⟩ := epV_out hv
  refine loop_in (ι := Nat) (fun i => mkS 43 [(8, .ptr 0 0), (9, B false), (10, .ptr 3 0), (26, .own 4), (27, I 3), (28, I i)] [.cells [I 0, .val (.slice none 0 0), .val (.slice none 0 0), I 0], .iarr (stC c gs js i), .iarr (stK k gs js i), .cells [I (stN n i), .own 1, .own 2, I (stR r r2 i), .ints gs, .sl 2 (rows2 js), I r2],
    .arr 1 [[.val (.func (.func 34) #[] #[])], [.val (.func (.func 35) #[] #[])], [.val (.func (.func 36) #[] #[])]]] Fs)
    (fun i => i ≤ 3 ∧ (1 ≤ i → memV c gs = true) ∧ (2 ≤ i → js.length ≤ 7) ∧ (3 ≤ i → EpV (n + 1) (delR c gs ++ fsts js) (delR k gs ++ snds js) r2 = true)) (fun i => 3 - i) 0 [1, 2, 3, 4, 5] ⟨by omega, by omega, by omega, by omega⟩ ?_ ?_
  · repeat' (first
      | ((conv => whnf); (first
        | refine brK_dec (fun _ => ?_) (fun _ => ?_)
        | refine brK_ndec (fun _ => ?_) (fun _ => ?_)
        | refine brK_not (fun _ => ?_) (fun _ => ?_)
        | refine brK_in (fun _ => ?_) (fun _ => ?_)
        | refine And.intro (by first | exact rfl | exact ⟨_, rfl, rfl⟩ | exact ⟨rfl, rfl, rfl⟩ | exact of_decide_eq_true rfl | exact trivial | assumption | omega | (show (_ ≤ _ ∧ _ ≤ _); omega) | (simp; omega) | exact ⟨by first | omega | (simp; omega), _, rfl, rfl⟩) ?_
        | refine Both.mk ?_ ?_
        | refine Exists.intro _ (And.intro rfl ?_)
        | refine fun _ => ?_))
      | exact rfl)
  rintro i ⟨hi, g1, g2, g3⟩
  have hcase : i = 0 ∨ i = 1 ∨ i = 2 ∨ i = 3 := by omega
  rcases hcase with rfl | rfl | rfl | rfl
  · repeat' (first
      | ((conv => whnf); (first
        | refine brK_dec (fun _ => ?_) (fun _ => ?_)
        | refine brK_ndec (fun _ => ?_) (fun _ => ?_)
        | refine brK_not (fun _ => ?_) (fun _ => ?_)
        | refine brK_in (fun _ => ?_) (fun _ => ?_)
        | refine And.intro (by first | exact rfl | exact (⟨by decide, _, rfl, rfl⟩) | exact ⟨_, rfl, rfl⟩ | exact ⟨rfl, rfl, rfl⟩ | exact of_decide_eq_true rfl | exact trivial | assumption | omega | (show (_ ≤ _ ∧ _ ≤ _); omega) | (simp; omega) | exact ⟨by first | omega | (simp; omega), _, rfl, rfl⟩) ?_
        | refine Both.mk ?_ ?_
        | refine Exists.intro _ (And.intro rfl ?_)
        | refine fun _ => ?_))
      | exact rfl)
    rename_i e he
    cases he
    repeat' (first
      | ((conv => whnf); (first
        | refine brK_dec (fun _ => ?_) (fun _ => ?_)
        | refine brK_ndec (fun _ => ?_) (fun _ => ?_)
        | refine brK_not (fun _ => ?_) (fun _ => ?_)
        | refine brK_in (fun _ => ?_) (fun _ => ?_)
        | refine And.intro (by first | exact rfl | exact (⟨by decide, _, rfl, rfl⟩) | exact ⟨_, rfl, rfl⟩ | exact ⟨rfl, rfl, rfl⟩ | exact of_decide_eq_true rfl | exact trivial | assumption | omega | (show (_ ≤ _ ∧ _ ≤ _); omega) | (simp; omega) | exact ⟨by first | omega | (simp; omega), _, rfl, rfl⟩) ?_
        | refine Both.mk ?_ ?_
        | refine Exists.intro _ (And.intro rfl ?_)
        | refine fun _ => ?_))
      | exact rfl)
    · rename_i hb
      have hb : (comV c && memV c gs) = false := hb
      exact hn (by simp only [nxV, hv, q3, Bool.true_and] at hb ⊢; rw [hb]; rfl)
    · rename_i hb
      have hb' : (comV c && memV c gs) = true := hb
      refine ⟨1, [0, 1, 2, 3, 4], ⟨by omega, fun _ => by simp at hb'; exact hb'.2, by omega, by omega⟩, by omega, ?_⟩
      repeat' (first
        | ((conv => whnf); (first
          | refine brK_dec (fun _ => ?_) (fun _ => ?_)
          | refine brK_ndec (fun _ => ?_) (fun _ => ?_)
          | refine brK_not (fun _ => ?_) (fun _ => ?_)
          | refine brK_in (fun _ => ?_) (fun _ => ?_)
          | refine And.intro (by first | exact rfl | exact (by first | (rw [if_pos hb]; rfl) | rfl) | exact ⟨_, rfl, rfl⟩ | exact ⟨rfl, rfl, rfl⟩ | exact of_decide_eq_true rfl | exact trivial | assumption | omega | (show (_ ≤ _ ∧ _ ≤ _); omega) | (simp; omega) | exact ⟨by first | omega | (simp; omega), _, rfl, rfl⟩) ?_
          | refine Both.mk ?_ ?_
          | refine Exists.intro _ (And.intro rfl ?_)
          | refine fun _ => ?_))
        | exact rfl)
  · repeat' (first
      | ((conv => whnf); (first
        | refine brK_dec (fun _ => ?_) (fun _ => ?_)
        | refine brK_ndec (fun _ => ?_) (fun _ => ?_)
        | refine brK_not (fun _ => ?_) (fun _ => ?_)
        | refine brK_in (fun _ => ?_) (fun _ => ?_)
        | refine And.intro (by first | exact rfl | exact (⟨by decide, _, rfl, rfl⟩) | exact ⟨_, rfl, rfl⟩ | exact ⟨rfl, rfl, rfl⟩ | exact of_decide_eq_true rfl | exact trivial | assumption | omega | (show (_ ≤ _ ∧ _ ≤ _); omega) | (simp; omega) | exact ⟨by first | omega | (simp; omega), _, rfl, rfl⟩) ?_
        | refine Both.mk ?_ ?_
        | refine Exists.intro _ (And.intro rfl ?_)
        | refine fun _ => ?_))
      | exact rfl)
    rename_i e he
    cases he
    have ha : Asc c.length gs := memV_asc (g1 (by omega))
    have hl1 : (stC c gs js 1).length < 2000000 := by show (delR c gs).length < 2000000; have := (delR_len ha).1; omega
    have hl2 : (stK k gs js 1).length < 2000000 := by show (delR k gs).length < 2000000; have := (delR_len (by rw [q5]; exact ha : Asc k.length gs)).1; omega
    repeat' (first
      | ((conv => whnf); (first
        | refine brK_dec (fun _ => ?_) (fun _ => ?_)
        | refine brK_ndec (fun _ => ?_) (fun _ => ?_)
        | refine brK_not (fun _ => ?_) (fun _ => ?_)
        | refine brK_in (fun _ => ?_) (fun _ => ?_)
        | refine And.intro (by first | exact rfl | exact (by first | exact ⟨by decide, _, rfl, rfl⟩ | exact ⟨js, rfl, hl1, hl2, by omega, rfl⟩) | exact ⟨_, rfl, rfl⟩ | exact ⟨rfl, rfl, rfl⟩ | exact of_decide_eq_true rfl | exact trivial | assumption | omega | (show (_ ≤ _ ∧ _ ≤ _); omega) | (simp; omega) | exact ⟨by first | omega | (simp; omega), _, rfl, rfl⟩) ?_
        | refine Both.mk ?_ ?_
        | refine Exists.intro _ (And.intro rfl ?_)
        | refine fun _ => ?_))
      | exact rfl)
    · rename_i hb
      refine hn (Bool.eq_false_iff.2 fun h => hb (nx_js h))
    · rename_i hb
      refine ⟨2, [0, 1, 2, 3, 4], ⟨by omega, fun _ => g1 (by omega), fun _ => hb, by omega⟩, by omega, ?_⟩
      repeat' (first
        | ((conv => whnf); (first
          | refine brK_dec (fun _ => ?_) (fun _ => ?_)
          | refine brK_ndec (fun _ => ?_) (fun _ => ?_)
          | refine brK_not (fun _ => ?_) (fun _ => ?_)
          | refine brK_in (fun _ => ?_) (fun _ => ?_)
          | refine And.intro (by first | exact rfl | exact (by first | (rw [if_pos hb]; rfl) | rfl) | exact ⟨_, rfl, rfl⟩ | exact ⟨rfl, rfl, rfl⟩ | exact of_decide_eq_true rfl | exact trivial | assumption | omega | (show (_ ≤ _ ∧ _ ≤ _); omega) | (simp; omega) | exact ⟨by first | omega | (simp; omega), _, rfl, rfl⟩) ?_
          | refine Both.mk ?_ ?_
          | refine Exists.intro _ (And.intro rfl ?_)
          | refine fun _ => ?_))
        | exact rfl)
  · repeat' (first
      | ((conv => whnf); (first
        | refine brK_dec (fun _ => ?_) (fun _ => ?_)
        | refine brK_ndec (fun _ => ?_) (fun _ => ?_)
        | refine brK_not (fun _ => ?_) (fun _ => ?_)
        | refine brK_in (fun _ => ?_) (fun _ => ?_)
        | refine And.intro (by first | exact rfl | exact (⟨by decide, _, rfl, rfl⟩) | exact ⟨_, rfl, rfl⟩ | exact ⟨rfl, rfl, rfl⟩ | exact of_decide_eq_true rfl | exact trivial | assumption | omega | (show (_ ≤ _ ∧ _ ≤ _); omega) | (simp; omega) | exact ⟨by first | omega | (simp; omega), _, rfl, rfl⟩) ?_
        | refine Both.mk ?_ ?_
        | refine Exists.intro _ (And.intro rfl ?_)
        | refine fun _ => ?_))
      | exact rfl)
    rename_i e he
    cases he
    have hg := g1 (by omega)
    have hj := g2 (by omega)
    have ha : Asc c.length gs := memV_asc hg
    have hak : Asc k.length gs := by rw [q5]; exact ha
    have hl1 : (stC c gs js 2).length < 2000000 := by show (delR c gs ++ fsts js).length < 2000000; have := (delR_len ha).1; simp [fsts]; omega
    have hl2 : (stK k gs js 2).length < 2000000 := by show (delR k gs ++ snds js).length < 2000000; have := (delR_len hak).1; simp [snds]; omega
    have hN : stN n 2 = n := rfl
    repeat' (first
      | ((conv => whnf); (first
        | refine brK_dec (fun _ => ?_) (fun _ => ?_)
        | refine brK_ndec (fun _ => ?_) (fun _ => ?_)
        | refine brK_not (fun _ => ?_) (fun _ => ?_)
        | refine brK_in (fun _ => ?_) (fun _ => ?_)
        | refine And.intro (by first | exact rfl | exact (by first | exact ⟨by decide, _, rfl, rfl⟩ | (rw [hN]; omega) | exact hl1 | exact hl2) | exact ⟨_, rfl, rfl⟩ | exact ⟨rfl, rfl, rfl⟩ | exact of_decide_eq_true rfl | exact trivial | assumption | omega | (show (_ ≤ _ ∧ _ ≤ _); omega) | (simp; omega) | exact ⟨by first | omega | (simp; omega), _, rfl, rfl⟩) ?_
        | refine Both.mk ?_ ?_
        | refine Exists.intro _ (And.intro rfl ?_)
        | refine fun _ => ?_))
      | exact rfl)
    · rename_i hb
      have hb : EpV (n + 1) (delR c gs ++ fsts js) (delR k gs ++ snds js) r2 = false := hb
      refine hn ?_
      rw [delR_keep ha, delR_keep hak] at hb
      simp only [nxV, nxC, nxK, hb, Bool.and_false]
    · rename_i hb
      refine ⟨3, [0, 1, 2, 3, 4], ⟨by omega, fun _ => hg, fun _ => hj, fun _ => hb⟩, by omega, ?_⟩
      repeat' (first
        | ((conv => whnf); (first
          | refine brK_dec (fun _ => ?_) (fun _ => ?_)
          | refine brK_ndec (fun _ => ?_) (fun _ => ?_)
          | refine brK_not (fun _ => ?_) (fun _ => ?_)
          | refine brK_in (fun _ => ?_) (fun _ => ?_)
          | refine And.intro (by first | exact rfl | exact ⟨_, rfl, rfl⟩ | exact ⟨rfl, rfl, rfl⟩ | exact of_decide_eq_true rfl | exact trivial | assumption | omega | (show (_ ≤ _ ∧ _ ≤ _); omega) | (simp; omega) | exact ⟨by first | omega | (simp; omega), _, rfl, rfl⟩) ?_
          | refine Both.mk ?_ ?_
          | refine Exists.intro _ (And.intro rfl ?_)
          | refine fun _ => ?_))
        | exact rfl)
  · have hg := g1 (by omega)
    have hj := g2 (by omega)
    have he := g3 (by omega)
    have ha : Asc c.length gs := memV_asc hg
    have hak : Asc k.length gs := by rw [q5]; exact ha
    have hl1 : (stC c gs js 3).length < 2000000 := by show (delR c gs ++ fsts js).length < 2000000; have := (delR_len ha).1; simp [fsts]; omega
    have hl2 : (stK k gs js 3).length < 2000000 := by show (delR k gs ++ snds js).length < 2000000; have := (delR_len hak).1; simp [snds]; omega
    repeat' (first
      | ((conv => whnf); (first
        | refine brK_dec (fun _ => ?_) (fun _ => ?_)
        | refine brK_ndec (fun _ => ?_) (fun _ => ?_)
        | refine brK_not (fun _ => ?_) (fun _ => ?_)
        | refine brK_in (fun _ => ?_) (fun _ => ?_)
        | refine And.intro (by first | exact rfl | exact (by first | exact ⟨by decide, _, rfl, rfl⟩ | exact hl1 | exact hl2) | exact ⟨_, rfl, rfl⟩ | exact ⟨rfl, rfl, rfl⟩ | exact of_decide_eq_true rfl | exact trivial | assumption | omega | (show (_ ≤ _ ∧ _ ≤ _); omega) | (simp; omega) | exact ⟨by first | omega | (simp; omega), _, rfl, rfl⟩) ?_
        | refine Both.mk ?_ ?_
        | refine Exists.intro _ (And.intro rfl ?_)
        | refine fun _ => ?_))
      | exact rfl)
    have e1 : stC c gs js 3 = nxC c gs js := by show delR c gs ++ fsts js = _; rw [delR_keep ha]; rfl
    have e2 : stK k gs js 3 = nxK k gs js := by show delR k gs ++ snds js = _; rw [delR_keep hak]; rfl
    rw [e1, e2]
    refine hy ?_
    simp only [nxV, hv, hg, Bool.true_and]
    rw [← e1, ← e2]
    exact he
end Go.Proofs.Ytgfpcjomgmdapaa
