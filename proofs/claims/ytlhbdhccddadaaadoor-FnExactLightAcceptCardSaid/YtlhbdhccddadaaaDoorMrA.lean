/-
Trees of digests: the check of a leaf by the reference, and what it computes.
No conditions.
-/
import Derived.Test.YtlhbdhccddadaaaDoorEvB
namespace Go.Proofs.YtlhbdhccddadaaaDoor
open Go Go.Vc
set_option maxHeartbeats 2000000
set_option maxRecDepth 10000
/-- The digest of a pair. -/
def hp (a b : Int) : Int := (31 * a + 17 * b + 5) % 991
/-- From a leaf up: the digest that is left and what is left of the proof. -/
def mkl : Nat → Int → Int → Int → List Int → Option (Int × List Int)
  | 0, _, _, n, p => some (n, p)
  | f + 1, s, i, n, p =>
    if 1 < s then
      if i + 1 - i % 2 * 2 < s then
        match p with
        | [] => none
        | q :: p' => if inR q 0 990 then mkl f ((s + 1) / 2) (i / 2) (if i < i + 1 - i % 2 * 2 then hp n q else hp q n) p' else none
      else mkl f ((s + 1) / 2) (i / 2) n p
    else some (n, p)
def mkV (root s i leaf : Int) (p : List Int) : Bool :=
  inR s 1 16 && (inR i 0 (s - 1) && (inR leaf 0 990 && (match mkl 4 s i leaf p with
    | some (n, []) => decide (n = root)
    | _ => false)))
theorem hp_rng (a b : Int) : 0 ≤ hp a b ∧ hp a b ≤ 990 := by
  unfold hp
  omega
def c_spec_l2Pair : Con := ⟨0, 0, false, fun xs hs _ K => match xs with
  | [.val (.int .i64 a), .val (.int .i64 b)] => hs = [] ∧ 0 ≤ a ∧ a ≤ 1000000 ∧ 0 ≤ b ∧ b ≤ 1000000 ∧ K (I (hp a b)) [] []
  | _ => False⟩
theorem k_spec_l2Pair : Keeps' Tryd.prog 94 c_spec_l2Pair := by
  refine keeps_of_vc mix TyT_ok cok_nil Tryd.func94 rfl rfl rfl ?_
  intro aargs hs Fs K h
  simp only [c_spec_l2Pair] at h
  split at h
  case h_2 => exact h.elim
  rename_i a b
  obtain ⟨rfl, h1, h2, h3, h4, h⟩ := h
  repeat' (first
    | ((conv => whnf); (first
      | refine brK_dec (fun _ => ?_) (fun _ => ?_)
      | refine brK_ndec (fun _ => ?_) (fun _ => ?_)
      | refine brK_not (fun _ => ?_) (fun _ => ?_)
      | refine brK_in (fun _ => ?_) (fun _ => ?_)
      | refine And.intro (by first | exact rfl | exact ⟨_, rfl, rfl⟩ | exact ⟨rfl, rfl, rfl⟩ | exact of_decide_eq_true rfl | exact trivial | assumption | omega | (show (_ ≤ _ ∧ _ ≤ _); omega) | (simp; omega) | exact ⟨by first | omega | (simp; omega), _, rfl, rfl⟩) ?_
      | refine Both.mk ?_ ?_
      | refine Exists.intro _ (And.intro rfl ?_)
      | refine fun _ => ?_))
    | exact rfl)
  exact h
def c_impl_HashPair : Con := ⟨0, 0, false, fun xs hs _ K => match xs with
  | [.val (.int .i64 a), .val (.int .i64 b)] => hs = [] ∧ K (I (if inR a 0 990 && inR b 0 990 then hp a b else -1)) [] []
  | _ => False⟩
theorem inR_out {x a b : Int} (h : inR x a b = true) : a ≤ x ∧ x ≤ b := by simpa [inR] using h
theorem k_impl_HashPair : Keeps' Tryd.prog 96 c_impl_HashPair := by
  refine keeps_of_vc mix TyT_ok (cok_cons k_impl_isDigest Tryd.func65 rfl rfl cok_nil) Tryd.func96 rfl rfl rfl ?_
  intro aargs hs Fs K h
  simp only [c_impl_HashPair] at h
  split at h
  case h_2 => exact h.elim
  rename_i a b
  obtain ⟨rfl, h⟩ := h
  rcases Bool.eq_false_or_eq_true (inR a 0 990) with ha | ha
  · rcases Bool.eq_false_or_eq_true (inR b 0 990) with hb | hb
    · have := inR_out ha
      have := inR_out hb
      simp only [ha, hb, Bool.and_true, if_true] at h
      repeat' (first
        | ((conv => whnf); (first
          | refine brK_dec (fun _ => ?_) (fun _ => ?_)
          | refine brK_ndec (fun _ => ?_) (fun _ => ?_)
          | refine brK_not (fun _ => ?_) (fun _ => ?_)
          | refine brK_in (fun _ => ?_) (fun _ => ?_)
          | refine And.intro (by first | exact rfl | exact ⟨_, rfl, rfl⟩ | exact ⟨rfl, rfl, rfl⟩ | exact of_decide_eq_true rfl | exact trivial | assumption | omega | (show (_ ≤ _ ∧ _ ≤ _); omega) | (simp; omega) | exact ⟨by first | omega | (simp; omega), _, rfl, rfl⟩) ?_
          | refine Both.mk ?_ ?_
          | refine Exists.intro _ (And.intro rfl ?_)
          | refine fun _ => ?_))
        | exact rfl)
      all_goals first
        | exact h
        | (exfalso; simp_all; done)
    · simp only [ha, hb, Bool.and_false] at h
      repeat' (first
        | ((conv => whnf); (first
          | refine brK_dec (fun _ => ?_) (fun _ => ?_)
          | refine brK_ndec (fun _ => ?_) (fun _ => ?_)
          | refine brK_not (fun _ => ?_) (fun _ => ?_)
          | refine brK_in (fun _ => ?_) (fun _ => ?_)
          | refine And.intro (by first | exact rfl | exact ⟨_, rfl, rfl⟩ | exact ⟨rfl, rfl, rfl⟩ | exact of_decide_eq_true rfl | exact trivial | assumption | omega | (show (_ ≤ _ ∧ _ ≤ _); omega) | (simp; omega) | exact ⟨by first | omega | (simp; omega), _, rfl, rfl⟩) ?_
          | refine Both.mk ?_ ?_
          | refine Exists.intro _ (And.intro rfl ?_)
          | refine fun _ => ?_))
        | exact rfl)
      all_goals first
        | exact h
        | (exfalso; simp_all; done)
  · simp only [ha, Bool.false_and] at h
    repeat' (first
      | ((conv => whnf); (first
        | refine brK_dec (fun _ => ?_) (fun _ => ?_)
        | refine brK_ndec (fun _ => ?_) (fun _ => ?_)
        | refine brK_not (fun _ => ?_) (fun _ => ?_)
        | refine brK_in (fun _ => ?_) (fun _ => ?_)
        | refine And.intro (by first | exact rfl | exact ⟨_, rfl, rfl⟩ | exact ⟨rfl, rfl, rfl⟩ | exact of_decide_eq_true rfl | exact trivial | assumption | omega | (show (_ ≤ _ ∧ _ ≤ _); omega) | (simp; omega) | exact ⟨by first | omega | (simp; omega), _, rfl, rfl⟩) ?_
        | refine Both.mk ?_ ?_
        | refine Exists.intro _ (And.intro rfl ?_)
        | refine fun _ => ?_))
      | exact rfl)
    all_goals first
      | exact h
      | (exfalso; simp_all; done)
theorem mkl_stop {f : Nat} {s i n : Int} {p : List Int} (h : ¬ 1 < s) : mkl f s i n p = some (n, p) := by
  cases f with
  | zero => rfl
  | succ f => simp [mkl, h]
theorem pow_half {f : Nat} {s : Int} (h : s ≤ 2 ^ (f + 1)) : (s + 1) / 2 ≤ 2 ^ f := by
  rw [Int.pow_succ] at h
  omega
def c_spec_MerkleCheck : Con := ⟨0, 0, false, fun xs hs _ K => match xs with
  | [.val (.int .i64 root), .val (.int .i64 s), .val (.int .i64 i), .val (.int .i64 leaf), .ints p] => hs = [] ∧ p.length < 2000000 ∧ K (B (mkV root s i leaf p)) [] []
  | _ => False⟩
theorem k_spec_MerkleCheck : Keeps' Tryd.prog 76 c_spec_MerkleCheck := by
  refine keeps_of_vc mix TyT_ok (cok_cons k_spec_l6In Tryd.func52 rfl rfl (cok_cons k_spec_l2Digest Tryd.func53 rfl rfl (cok_cons k_spec_l2Pair Tryd.func94 rfl rfl cok_nil))) Tryd.func76 rfl rfl rfl ?_
  intro aargs hs Fs K h
  simp only [c_spec_MerkleCheck] at h
  split at h
  case h_2 => exact h.elim
  rename_i root s i leaf p
  obtain ⟨rfl, h3, h⟩ := h
  have no : ∀ {b : Bool}, mkV root s i leaf p = b → K (B b) [] [] := fun e => by rw [← e]; exact h
  repeat' (first
    | ((conv => whnf); (first
      | refine brK_dec (fun _ => ?_) (fun _ => ?_)
      | refine brK_ndec (fun _ => ?_) (fun _ => ?_)
      | refine brK_not (fun _ => ?_) (fun _ => ?_)
      | refine brK_in (fun _ => ?_) (fun _ => ?_)
      | refine And.intro (by first | exact rfl | exact ⟨_, rfl, rfl⟩ | exact ⟨rfl, rfl, rfl⟩ | exact of_decide_eq_true rfl | exact trivial | assumption | omega | (show (_ ≤ _ ∧ _ ≤ _); omega) | (simp; omega) | exact ⟨by first | omega | (simp; omega), _, rfl, rfl⟩) ?_
      | refine Both.mk ?_ ?_
      | refine Exists.intro _ (And.intro rfl ?_)
      | refine fun _ => ?_))
    | exact rfl)
  · rename_i e
    exact no (by simp [mkV, e])
  rename_i es
  obtain ⟨s1, s2⟩ := inR_out es
  repeat' (first
    | ((conv => whnf); (first
      | refine brK_dec (fun _ => ?_) (fun _ => ?_)
      | refine brK_ndec (fun _ => ?_) (fun _ => ?_)
      | refine brK_not (fun _ => ?_) (fun _ => ?_)
      | refine brK_in (fun _ => ?_) (fun _ => ?_)
      | refine And.intro (by first | exact rfl | exact ⟨_, rfl, rfl⟩ | exact ⟨rfl, rfl, rfl⟩ | exact of_decide_eq_true rfl | exact trivial | assumption | omega | (show (_ ≤ _ ∧ _ ≤ _); omega) | (simp; omega) | exact ⟨by first | omega | (simp; omega), _, rfl, rfl⟩) ?_
      | refine Both.mk ?_ ?_
      | refine Exists.intro _ (And.intro rfl ?_)
      | refine fun _ => ?_))
    | exact rfl)
  · rename_i e
    exact no (by simp [mkV, e])
  · rename_i ei e
    exact no (by simp [mkV, e])
  rename_i ei el
  obtain ⟨i1, i2⟩ := inR_out ei
  obtain ⟨n1, n2⟩ := inR_out el
  have em : mkV root s i leaf p = (match mkl 4 s i leaf p with
    | some (n, []) => decide (n = root)
    | _ => false) := by simp only [mkV, es, ei, el, Bool.true_and]
  rw [em] at no
  clear h em es ei el
  refine loop_in (ι := Nat × Int × Int × Int × List Int) (fun g => mkS 78 [(0, I root), (1, I g.2.1), (2, I g.2.2.1), (4, .ints g.2.2.2.2), (10, B false), (11, I g.2.2.2.1)] [] Fs)
    (fun g => mkl 4 s i leaf p = mkl g.1 g.2.1 g.2.2.1 g.2.2.2.1 g.2.2.2.2 ∧ g.2.1 ≤ 2 ^ g.1 ∧ 1 ≤ g.2.1 ∧ g.2.1 ≤ 16 ∧ 0 ≤ g.2.2.1 ∧ g.2.2.1 < g.2.1 ∧ 0 ≤ g.2.2.2.1 ∧ g.2.2.2.1 ≤ 990 ∧ g.2.2.2.2.length < 2000000) (fun g => g.1)
    (4, s, i, leaf, p) [] ⟨rfl, s2, s1, s2, i1, by dsimp only; omega, n1, n2, h3⟩ ?_ ?_
  · repeat' (first
      | ((conv => whnf); (first
        | refine brK_dec (fun _ => ?_) (fun _ => ?_)
        | refine brK_ndec (fun _ => ?_) (fun _ => ?_)
        | refine brK_not (fun _ => ?_) (fun _ => ?_)
        | refine brK_in (fun _ => ?_) (fun _ => ?_)
        | refine And.intro (by first | exact rfl | exact ⟨_, rfl, rfl⟩ | exact ⟨rfl, rfl, rfl⟩ | exact of_decide_eq_true rfl | exact trivial | assumption | omega | (show (_ ≤ _ ∧ _ ≤ _); omega) | (simp; omega) | exact ⟨by first | omega | (simp; omega), _, rfl, rfl⟩) ?_
        | refine Both.mk ?_ ?_
        | refine Exists.intro _ (And.intro rfl ?_)
        | refine fun _ => ?_))
      | exact rfl)
  rintro ⟨f, s', i', n, q⟩ ⟨hm, a1, a2, a3, a4, a5, a6, a7, a8⟩
  dsimp only at hm a1 a2 a3 a4 a5 a6 a7 a8 ⊢
  rw [hm] at no
  by_cases hs1 : 1 < s'
  · obtain ⟨f, rfl⟩ : ∃ f', f = f' + 1 := by
      cases f with
      | zero => simp at a1; omega
      | succ f => exact ⟨f, rfl⟩
    have ah := pow_half a1
    by_cases hb : i' + 1 - i' % 2 * 2 < s'
    · cases q with
      | nil =>
        repeat' (first
          | ((conv => whnf); (first
            | refine brK_dec (fun _ => ?_) (fun _ => ?_)
            | refine brK_ndec (fun _ => ?_) (fun _ => ?_)
            | refine brK_not (fun _ => ?_) (fun _ => ?_)
            | refine brK_in (fun _ => ?_) (fun _ => ?_)
            | refine And.intro (by first | exact rfl | exact ⟨_, rfl, rfl⟩ | exact ⟨rfl, rfl, rfl⟩ | exact of_decide_eq_true rfl | exact trivial | assumption | omega | (show (_ ≤ _ ∧ _ ≤ _); omega) | (simp; omega) | exact ⟨by first | omega | (simp; omega), _, rfl, rfl⟩) ?_
            | refine Both.mk ?_ ?_
            | refine Exists.intro _ (And.intro rfl ?_)
            | refine fun _ => ?_))
          | exact rfl)
        all_goals first
          | (exfalso; omega)
          | exact no (by simp [mkl, hs1, hb])
      | cons x q =>
        have ha8 : q.length < 2000000 := by simp at a8; omega
        have hpos : (0 : Int) < ((x :: q).length : Nat) := by rw [List.length_cons]; omega
        rcases Bool.eq_false_or_eq_true (inR x 0 990) with hx | hx
        · obtain ⟨x1, x2⟩ := inR_out hx
          repeat' (first
            | ((conv => whnf); (first
              | refine brK_dec (fun _ => ?_) (fun _ => ?_)
              | refine brK_ndec (fun _ => ?_) (fun _ => ?_)
              | refine brK_not (fun _ => ?_) (fun _ => ?_)
              | refine brK_in (fun _ => ?_) (fun _ => ?_)
              | refine And.intro (by first | exact rfl | exact ⟨_, rfl, rfl⟩ | exact ⟨rfl, rfl, rfl⟩ | exact of_decide_eq_true rfl | exact trivial | assumption | omega | (show (_ ≤ _ ∧ _ ≤ _); omega) | (simp; omega) | exact ⟨by first | omega | (simp; omega), _, rfl, rfl⟩) ?_
              | refine Both.mk ?_ ?_
              | refine Exists.intro _ (And.intro rfl ?_)
              | refine fun _ => ?_))
            | exact rfl)
          all_goals first
            | (exfalso; omega)
            | (exfalso; simp_all; done)
            | skip
          · rename_i _ hb' x' hx' hd hlt x2' hx2
            have e : x = x2' := Option.some.inj hx2
            subst e
            repeat' (first
              | ((conv => whnf); (first
                | refine brK_dec (fun _ => ?_) (fun _ => ?_)
                | refine brK_ndec (fun _ => ?_) (fun _ => ?_)
                | refine brK_not (fun _ => ?_) (fun _ => ?_)
                | refine brK_in (fun _ => ?_) (fun _ => ?_)
                | refine And.intro (by first | exact rfl | exact ⟨_, rfl, rfl⟩ | exact ⟨rfl, rfl, rfl⟩ | exact of_decide_eq_true rfl | exact trivial | assumption | omega | (show (_ ≤ _ ∧ _ ≤ _); omega) | (simp; omega) | exact ⟨by first | omega | (simp; omega), _, rfl, rfl⟩) ?_
                | refine Both.mk ?_ ?_
                | refine Exists.intro _ (And.intro rfl ?_)
                | refine fun _ => ?_))
              | exact rfl)
            refine ⟨(f, (s' + 1) / 2, i' / 2, hp n x, q), [], ⟨?_, ah, by dsimp only; omega, by dsimp only; omega, by dsimp only; omega, by dsimp only; omega, (hp_rng _ _).1, (hp_rng _ _).2, ha8⟩, by dsimp only; omega, ?_⟩
            · dsimp only
              rw [hm]
              simp only [mkl, hs1, hb, hx, hlt, if_true]
            · repeat' (first
                | ((conv => whnf); (first
                  | refine brK_dec (fun _ => ?_) (fun _ => ?_)
                  | refine brK_ndec (fun _ => ?_) (fun _ => ?_)
                  | refine brK_not (fun _ => ?_) (fun _ => ?_)
                  | refine brK_in (fun _ => ?_) (fun _ => ?_)
                  | refine And.intro (by first | exact rfl | exact (by first | (simp; done) | (symm; simp; done)) | exact ⟨_, rfl, rfl⟩ | exact ⟨rfl, rfl, rfl⟩ | exact of_decide_eq_true rfl | exact trivial | assumption | omega | (show (_ ≤ _ ∧ _ ≤ _); omega) | (simp; omega) | exact ⟨by first | omega | (simp; omega), _, rfl, rfl⟩) ?_
                  | refine Both.mk ?_ ?_
                  | refine Exists.intro _ (And.intro rfl ?_)
                  | refine fun _ => ?_))
                | exact rfl)
          · rename_i _ hb' x' hx' hd hlt x2' hx2
            have e : x = x2' := Option.some.inj hx2
            subst e
            repeat' (first
              | ((conv => whnf); (first
                | refine brK_dec (fun _ => ?_) (fun _ => ?_)
                | refine brK_ndec (fun _ => ?_) (fun _ => ?_)
                | refine brK_not (fun _ => ?_) (fun _ => ?_)
                | refine brK_in (fun _ => ?_) (fun _ => ?_)
                | refine And.intro (by first | exact rfl | exact ⟨_, rfl, rfl⟩ | exact ⟨rfl, rfl, rfl⟩ | exact of_decide_eq_true rfl | exact trivial | assumption | omega | (show (_ ≤ _ ∧ _ ≤ _); omega) | (simp; omega) | exact ⟨by first | omega | (simp; omega), _, rfl, rfl⟩) ?_
                | refine Both.mk ?_ ?_
                | refine Exists.intro _ (And.intro rfl ?_)
                | refine fun _ => ?_))
              | exact rfl)
            refine ⟨(f, (s' + 1) / 2, i' / 2, hp x n, q), [], ⟨?_, ah, by dsimp only; omega, by dsimp only; omega, by dsimp only; omega, by dsimp only; omega, (hp_rng _ _).1, (hp_rng _ _).2, ha8⟩, by dsimp only; omega, ?_⟩
            · dsimp only
              rw [hm]
              simp only [mkl, hs1, hb, hx, hlt, if_true, if_false]
            · repeat' (first
                | ((conv => whnf); (first
                  | refine brK_dec (fun _ => ?_) (fun _ => ?_)
                  | refine brK_ndec (fun _ => ?_) (fun _ => ?_)
                  | refine brK_not (fun _ => ?_) (fun _ => ?_)
                  | refine brK_in (fun _ => ?_) (fun _ => ?_)
                  | refine And.intro (by first | exact rfl | exact (by first | (simp; done) | (symm; simp; done)) | exact ⟨_, rfl, rfl⟩ | exact ⟨rfl, rfl, rfl⟩ | exact of_decide_eq_true rfl | exact trivial | assumption | omega | (show (_ ≤ _ ∧ _ ≤ _); omega) | (simp; omega) | exact ⟨by first | omega | (simp; omega), _, rfl, rfl⟩) ?_
                  | refine Both.mk ?_ ?_
                  | refine Exists.intro _ (And.intro rfl ?_)
                  | refine fun _ => ?_))
                | exact rfl)
        · repeat' (first
            | ((conv => whnf); (first
              | refine brK_dec (fun _ => ?_) (fun _ => ?_)
              | refine brK_ndec (fun _ => ?_) (fun _ => ?_)
              | refine brK_not (fun _ => ?_) (fun _ => ?_)
              | refine brK_in (fun _ => ?_) (fun _ => ?_)
              | refine And.intro (by first | exact rfl | exact ⟨_, rfl, rfl⟩ | exact ⟨rfl, rfl, rfl⟩ | exact of_decide_eq_true rfl | exact trivial | assumption | omega | (show (_ ≤ _ ∧ _ ≤ _); omega) | (simp; omega) | exact ⟨by first | omega | (simp; omega), _, rfl, rfl⟩) ?_
              | refine Both.mk ?_ ?_
              | refine Exists.intro _ (And.intro rfl ?_)
              | refine fun _ => ?_))
            | exact rfl)
          all_goals first
            | (exfalso; omega)
            | exact no (by simp [mkl, hs1, hb, hx])
            | (exfalso; simp_all; done)
            | skip
    · repeat' (first
        | ((conv => whnf); (first
          | refine brK_dec (fun _ => ?_) (fun _ => ?_)
          | refine brK_ndec (fun _ => ?_) (fun _ => ?_)
          | refine brK_not (fun _ => ?_) (fun _ => ?_)
          | refine brK_in (fun _ => ?_) (fun _ => ?_)
          | refine And.intro (by first | exact rfl | exact ⟨_, rfl, rfl⟩ | exact ⟨rfl, rfl, rfl⟩ | exact of_decide_eq_true rfl | exact trivial | assumption | omega | (show (_ ≤ _ ∧ _ ≤ _); omega) | (simp; omega) | exact ⟨by first | omega | (simp; omega), _, rfl, rfl⟩) ?_
          | refine Both.mk ?_ ?_
          | refine Exists.intro _ (And.intro rfl ?_)
          | refine fun _ => ?_))
        | exact rfl)
      all_goals first
        | (exfalso; omega)
        | skip
      refine ⟨(f, (s' + 1) / 2, i' / 2, n, q), [], ⟨?_, ah, by dsimp only; omega, by dsimp only; omega, by dsimp only; omega, by dsimp only; omega, a6, a7, a8⟩, by dsimp only; omega, ?_⟩
      · dsimp only
        rw [hm]
        simp only [mkl, hs1, hb, if_true, if_false]
      · repeat' (first
          | ((conv => whnf); (first
            | refine brK_dec (fun _ => ?_) (fun _ => ?_)
            | refine brK_ndec (fun _ => ?_) (fun _ => ?_)
            | refine brK_not (fun _ => ?_) (fun _ => ?_)
            | refine brK_in (fun _ => ?_) (fun _ => ?_)
            | refine And.intro (by first | exact rfl | exact ⟨_, rfl, rfl⟩ | exact ⟨rfl, rfl, rfl⟩ | exact of_decide_eq_true rfl | exact trivial | assumption | omega | (show (_ ≤ _ ∧ _ ≤ _); omega) | (simp; omega) | exact ⟨by first | omega | (simp; omega), _, rfl, rfl⟩) ?_
            | refine Both.mk ?_ ?_
            | refine Exists.intro _ (And.intro rfl ?_)
            | refine fun _ => ?_))
          | exact rfl)
  · repeat' (first
      | ((conv => whnf); (first
        | refine brK_dec (fun _ => ?_) (fun _ => ?_)
        | refine brK_ndec (fun _ => ?_) (fun _ => ?_)
        | refine brK_not (fun _ => ?_) (fun _ => ?_)
        | refine brK_in (fun _ => ?_) (fun _ => ?_)
        | refine And.intro (by first | exact rfl | exact ⟨_, rfl, rfl⟩ | exact ⟨rfl, rfl, rfl⟩ | exact of_decide_eq_true rfl | exact trivial | assumption | omega | (show (_ ≤ _ ∧ _ ≤ _); omega) | (simp; omega) | exact ⟨by first | omega | (simp; omega), _, rfl, rfl⟩) ?_
        | refine Both.mk ?_ ?_
        | refine Exists.intro _ (And.intro rfl ?_)
        | refine fun _ => ?_))
      | exact rfl)
    all_goals first
      | (exfalso; omega)
      | skip
    · rename_i hq
      have : q = [] := List.eq_nil_of_length_eq_zero (by omega)
      subst this
      exact no (by rw [mkl_stop hs1])
    · rename_i hq
      refine no ?_
      rw [mkl_stop hs1]
      cases q with
      | nil => exact absurd rfl hq
      | cons x q => rfl
end Go.Proofs.YtlhbdhccddadaaaDoor
