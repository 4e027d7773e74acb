/-
Trees of digests: the check of a leaf by the program.
No conditions.
-/
import Derived.Test.YtlhbdhccddadaaaDoorMrP
import Derived.Test.YtlhbdhccddadaaaDoorWdA
namespace Go.Proofs.YtlhbdhccddadaaaDoor
open Go Go.Vc
set_option maxHeartbeats 4000000
set_option maxRecDepth 10000
theorem wd_shift {s : Int} (h : 1 < s) : ∀ i, wd s (i + 1) = wd ((s + 1) / 2) i
  | 0 => by simp [wd, h]
  | i + 1 => by
    have e := wd_shift h i
    rw [wd, e]
    rfl
theorem Wn_ex : ∀ (k : Nat) (s : Int), 1 ≤ s → s ≤ k → s ≤ 1000000 → ∃ n, Wn s n
  | 0, s, h1, h2, _ => by omega
  | k + 1, s, h1, h2, h3 => by
    by_cases h : 1 < s
    · obtain ⟨n, w1, w2, w3, w4⟩ := Wn_ex k ((s + 1) / 2) (by omega) (by omega) (by omega)
      refine ⟨n + 1, by omega, ?_, ?_, h3⟩
      · obtain ⟨m, rfl⟩ : ∃ m, n = m + 1 := ⟨n - 1, by omega⟩
        show wd s (m + 1) = 1
        rw [wd_shift h]
        exact w2
      · intro i hi
        cases i with
        | zero => exact h
        | succ i =>
          rw [wd_shift h]
          exact w3 i (by omega)
    · have e : s = 1 := by omega
      exact ⟨1, by omega, by simp [wd, e], fun i hi => by omega, h3⟩
theorem mkV_no {root s i leaf : Int} {p : List Int} (h : ¬ (1 ≤ s ∧ s ≤ 16 ∧ 0 ≤ i ∧ i < s)) : mkV root s i leaf p = false := by
  cases e : mkV root s i leaf p with
  | false => rfl
  | true =>
    unfold mkV at e
    simp only [Bool.and_eq_true] at e
    have e1 := inR_out e.1
    have e2 := inR_out e.2.1
    omega
theorem mkV_leaf {root s i leaf : Int} {p : List Int} (h : inR leaf 0 990 = false) : mkV root s i leaf p = false := by
  simp [mkV, h]
theorem mkV_bad {root s i leaf x : Int} {p : List Int} (hx : x ∈ p) (h : inR x 0 990 = false) : mkV root s i leaf p = false := by
  cases e : mkV root s i leaf p with
  | false => rfl
  | true =>
    have := mkV_all e x hx
    rw [h] at this
    cases this
theorem xor_one {i : Int} (h0 : 0 ≤ i) (h1 : i < 16) : bits .xor .i64 i 1 = i + 1 - i % 2 * 2 := by
  obtain ⟨n, rfl⟩ : ∃ n : Nat, i = n := ⟨i.toNat, by omega⟩
  have : ∀ n : Fin 16, bits .xor .i64 ((n : Nat) : Int) 1 = ((n : Nat) : Int) + 1 - ((n : Nat) : Int) % 2 * 2 := by decide
  exact this ⟨n, by omega⟩
theorem xo_even {i : Int} (h : i % 2 = 0) : i < i + 1 - i % 2 * 2 := by omega
theorem xo_odd {i : Int} (h : ¬ i % 2 = 0) : ¬ i < i + 1 - i % 2 * 2 := by omega
theorem wd_pos {s : Int} (h : 1 ≤ s) : ∀ i, 1 ≤ wd s i
  | 0 => h
  | i + 1 => by
    have := wd_pos h i
    simp only [wd]
    split <;> omega
def c_impl_MerkleCheck : Con := ⟨0, 0, false, fun xs hs _ K => match xs with
  | [.val (.int .i64 root), .val (.int .i64 s), .val (.int .i64 i), .val (.int .i64 leaf), .ints p] => hs = [] ∧ p.length < 2000000 ∧ K (B (mkV root s i leaf p)) [] []
  | _ => False⟩
theorem k_impl_MerkleCheck : Keeps' Tryd.prog 79 c_impl_MerkleCheck := by
  refine keeps_of_vc mix TyT_ok (cok_iter (cok_cons k_impl_isDigest Tryd.func65 rfl rfl (cok_cons k_impl_widths Tryd.func95 rfl rfl (cok_cons k_impl_HashPair Tryd.func96 rfl rfl cok_nil))) wid_enter wid_ok) Tryd.func79 rfl rfl rfl ?_
  intro aargs hs Fs K h
  simp only [c_impl_MerkleCheck] at h
  split at h
  case h_2 => exact h.elim
  rename_i root s i leaf p
  obtain ⟨rfl, h3, h⟩ := h
  have no : ∀ {b : Bool}, mkV root s i leaf p = b → K (B b) [] [] := fun e => by rw [← e]; exact h
  repeat' (first
    | ((conv => whnf); (first
      | refine draw_plan (id := 16) [] [5, 6] (.take 0 (.take 1 (.take 2 (.take 3 (.take 4 (.run 5 (.run 6 .done))))))) (by kernel_rfl) (by kernel_rfl) ?_
      | refine draw_plan (id := 17) [] [5, 6] (.take 0 (.take 1 (.take 2 (.take 3 (.take 4 (.run 5 (.run 6 .done))))))) (by kernel_rfl) (by kernel_rfl) ?_
      | refine brK_dec (fun _ => ?_) (fun _ => ?_)
      | refine brK_ndec (fun _ => ?_) (fun _ => ?_)
      | refine brK_not (fun _ => ?_) (fun _ => ?_)
      | refine brK_in (fun _ => ?_) (fun _ => ?_)
      | refine And.intro (by first | exact rfl | exact ⟨_, rfl, rfl⟩ | exact ⟨rfl, rfl, rfl⟩ | exact of_decide_eq_true rfl | exact trivial | assumption | omega | (show (_ ≤ _ ∧ _ ≤ _); omega) | (simp; omega) | exact ⟨by first | omega | (simp; omega), _, rfl, rfl⟩) ?_
      | refine Both.mk ?_ ?_
      | refine Exists.intro _ (And.intro rfl ?_)
      | refine fun _ => ?_))
    | exact rfl)
  all_goals first
    | exact no (mkV_no (by omega))
    | exact no (mkV_leaf (by assumption))
    | skip
  rename_i s1 s2 i1 i2 el
  obtain ⟨n1, n2⟩ := inR_out el
  refine loop_in (ι := Nat) (fun j => mkS 86 [(0, I root), (1, I s), (3, I leaf), (7, .ptr 0 0), (9, .ptr 1 0), (10, .ptr 2 0), (36, .ints p), (37, I p.length), (38, I j)] [.cells [I i], .cells [.ints p], .cells [B false]] Fs)
    (fun j => j ≤ p.length ∧ ∀ y ∈ p.take j, inR y 0 990 = true) (fun j => p.length - j) 0 [0, 1, 2] ⟨Nat.zero_le _, by simp⟩ ?_ ?_
  · repeat' (first
      | ((conv => whnf); (first
        | refine brK_dec (fun _ => ?_) (fun _ => ?_)
        | refine brK_ndec (fun _ => ?_) (fun _ => ?_)
        | refine brK_not (fun _ => ?_) (fun _ => ?_)
        | refine brK_in (fun _ => ?_) (fun _ => ?_)
        | refine And.intro (by first | exact rfl | exact ⟨_, rfl, rfl⟩ | exact ⟨rfl, rfl, rfl⟩ | exact of_decide_eq_true rfl | exact trivial | assumption | omega | (show (_ ≤ _ ∧ _ ≤ _); omega) | (simp; omega) | exact ⟨by first | omega | (simp; omega), _, rfl, rfl⟩) ?_
        | refine Both.mk ?_ ?_
        | refine Exists.intro _ (And.intro rfl ?_)
        | refine fun _ => ?_))
      | exact rfl)
  rintro j ⟨hj, hall⟩
  repeat' (first
    | ((conv => whnf); (first
      | refine draw_plan (id := 16) [] [5, 6] (.take 0 (.take 1 (.take 2 (.take 3 (.take 4 (.run 5 (.run 6 .done))))))) (by kernel_rfl) (by kernel_rfl) ?_
      | refine draw_plan (id := 17) [] [5, 6] (.take 0 (.take 1 (.take 2 (.take 3 (.take 4 (.run 5 (.run 6 .done))))))) (by kernel_rfl) (by kernel_rfl) ?_
      | refine brK_dec (fun _ => ?_) (fun _ => ?_)
      | refine brK_ndec (fun _ => ?_) (fun _ => ?_)
      | refine brK_not (fun _ => ?_) (fun _ => ?_)
      | refine brK_in (fun _ => ?_) (fun _ => ?_)
      | refine And.intro (by first | exact rfl | exact ⟨_, rfl, rfl⟩ | exact ⟨rfl, rfl, rfl⟩ | exact of_decide_eq_true rfl | exact trivial | assumption | omega | (show (_ ≤ _ ∧ _ ≤ _); omega) | (simp; omega) | exact ⟨by first | omega | (simp; omega), _, rfl, rfl⟩) ?_
      | refine Both.mk ?_ ?_
      | refine Exists.intro _ (And.intro rfl ?_)
      | refine fun _ => ?_))
    | exact rfl)
  · rename_i hjl x hx q
    exact no (mkV_bad (List.mem_of_getElem? hx) q)
  · rename_i hjl x hx q
    refine ⟨j + 1, [0, 1, 2], ⟨by omega, ?_⟩, by omega, ?_⟩
    · intro y hy
      have hx : p[j]? = some x := hx
      rw [List.take_add_one, hx] at hy
      rcases List.mem_append.1 hy with hy | hy
      · exact hall y hy
      · simp at hy
        rw [hy]; exact q
    · repeat' (first
        | ((conv => whnf); (first
          | refine brK_dec (fun _ => ?_) (fun _ => ?_)
          | refine brK_ndec (fun _ => ?_) (fun _ => ?_)
          | refine brK_not (fun _ => ?_) (fun _ => ?_)
          | refine brK_in (fun _ => ?_) (fun _ => ?_)
          | refine And.intro (by first | exact rfl | exact ⟨_, rfl, rfl⟩ | exact ⟨rfl, rfl, rfl⟩ | exact of_decide_eq_true rfl | exact trivial | assumption | omega | (show (_ ≤ _ ∧ _ ≤ _); omega) | (simp; omega) | exact ⟨by first | omega | (simp; omega), _, rfl, rfl⟩) ?_
          | refine Both.mk ?_ ?_
          | refine Exists.intro _ (And.intro rfl ?_)
          | refine fun _ => ?_))
        | exact rfl)
  rename_i hjl
  rw [List.take_of_length_le (by omega)] at hall
  have em : mkV root s i leaf p = (match mkl 4 s i leaf p with
    | some (n, []) => decide (n = root)
    | _ => false) := by
    have e1 : inR s 1 16 = true := by simp [inR]; omega
    have e2 : inR i 0 (s - 1) = true := by simp [inR]; omega
    simp only [mkV, e1, e2, el, Bool.true_and]
    generalize mkl 4 s i leaf p = o
    match o with
    | none => rfl
    | some (n, []) => rfl
    | some (n, _ :: _) => rfl
  rw [em] at no
  clear h em el hjl hj
  obtain ⟨n, hn⟩ := Wn_ex 16 s (by omega) (by omega) (by omega)
  conv => whnf
  refine range_rule (ι := Int × Int × Nat × Nat) 101 5 (I s) itWid n (fun j => [.int .i64 (wd s j)]) (fun j => I (wd s j))
    (fun j g => mkS 86 [(0, I root), (7, .ptr 0 0), (9, .ptr 1 0), (10, .ptr 2 0), (13, .ptr 3 0), (14, .ptr 4 0)] [.cells [I g.2.1], .cells [.ints p], .cells [B false], .cells [I g.1], .cells [I g.2.2.1], .cells [I (wd s j)]] Fs)
    (fun j g => mkl 4 s i leaf p = mkl g.2.2.2 (wd s j) g.2.1 g.1 (p.drop g.2.2.1) ∧ wd s j ≤ 2 ^ g.2.2.2 ∧ 0 ≤ g.2.1 ∧ g.2.1 < wd s j ∧ 0 ≤ g.1 ∧ g.1 ≤ 990 ∧ g.2.2.1 ≤ p.length) (leaf, i, 0, 4) [0, 1, 2, 3, 4, 5] rfl rfl rfl ⟨s, rfl, hn, rfl, rfl⟩ rfl (fun _ => rfl) ⟨rfl, by simp [wd]; omega, by dsimp only; omega, by simp [wd]; omega, n1, n2, Nat.zero_le _⟩ rfl ?_ (fun _ _ _ => Nat.le_of_ble_eq_true rfl) (fun _ _ _ => rfl) ?_ ?_
  · repeat' (first
      | ((conv => whnf); (first
        | refine brK_dec (fun _ => ?_) (fun _ => ?_)
        | refine brK_ndec (fun _ => ?_) (fun _ => ?_)
        | refine brK_not (fun _ => ?_) (fun _ => ?_)
        | refine brK_in (fun _ => ?_) (fun _ => ?_)
        | refine And.intro (by first | exact rfl | exact ⟨_, rfl, rfl⟩ | exact ⟨rfl, rfl, rfl⟩ | exact of_decide_eq_true rfl | exact trivial | assumption | omega | (show (_ ≤ _ ∧ _ ≤ _); omega) | (simp; omega) | exact ⟨by first | omega | (simp; omega), _, rfl, rfl⟩) ?_
        | refine Both.mk ?_ ?_
        | refine Exists.intro _ (And.intro rfl ?_)
        | refine fun _ => ?_))
      | exact rfl)
  · rintro j ⟨nd, ix, u, f⟩ hjn ⟨hm, a1, a2, a3, a4, a5, a6⟩
    dsimp only at hm a1 a2 a3 a4 a5 a6 ⊢
    have hw1 := wd_le s j
    have hw2 : wd s (j + 1) = if 1 < wd s j then (wd s j + 1) / 2 else wd s j := rfl
    have hxo := xor_one a2 (by omega)
    have hir : inR nd 0 990 = true := by simp [inR]; omega
    rw [hm] at no
    generalize wd s j = w at *
    generalize wd s (j + 1) = w' at *
    have hfs : 1 < w → ∃ f', f = f' + 1 := fun h => by
      cases f with
      | zero => simp at a1; omega
      | succ f => exact ⟨f, rfl⟩
    repeat' (first
      | ((conv => whnf); (first
        | refine draw_plan (id := 16) [] [5, 6] (.take 0 (.take 1 (.take 2 (.take 3 (.take 4 (.run 5 (.run 6 .done))))))) (by kernel_rfl) (by kernel_rfl) ?_
        | refine draw_plan (id := 17) [] [5, 6] (.take 0 (.take 1 (.take 2 (.take 3 (.take 4 (.run 5 (.run 6 .done))))))) (by kernel_rfl) (by kernel_rfl) ?_
        | refine brK_dec (fun _ => ?_) (fun _ => ?_)
        | refine brK_ndec (fun _ => ?_) (fun _ => ?_)
        | refine brK_not (fun _ => ?_) (fun _ => ?_)
        | refine brK_in (fun _ => ?_) (fun _ => ?_)
        | refine And.intro (by first | exact rfl | exact ⟨_, rfl, rfl⟩ | exact ⟨rfl, rfl, rfl⟩ | exact of_decide_eq_true rfl | exact trivial | assumption | omega | (show (_ ≤ _ ∧ _ ≤ _); omega) | (simp; omega) | exact ⟨by first | omega | (simp; omega), _, rfl, rfl⟩) ?_
        | refine Both.mk ?_ ?_
        | refine Exists.intro _ (And.intro rfl ?_)
        | refine fun _ => ?_))
      | exact rfl)
    · rename_i hb hu
      rw [hxo] at hb
      have h1w : 1 < w := by omega
      obtain ⟨f, rfl⟩ := hfs h1w
      refine no ?_
      rw [List.drop_eq_nil_of_le (by omega)]
      simp [mkl, h1w, hb]
    · rename_i hb hu hev x hx
      rw [hxo] at hb
      have h1w : 1 < w := by omega
      obtain ⟨f, rfl⟩ := hfs h1w
      have hx : p[u]? = some x := hx
      have hul : u < p.length := by omega
      have hxd : inR x 0 990 = true := hall x (List.mem_of_getElem? hx)
      have hdr : p.drop u = x :: p.drop (u + 1) := by
        rw [List.drop_eq_getElem_cons hul]
        congr 1
        exact Option.some.inj ((List.getElem?_eq_getElem hul).symm.trans hx)
      have hnode : (if (inR nd 0 990 && inR x 0 990) = true then hp nd x else -1) = hp nd x := by rw [hir, hxd]; rfl
      rw [if_pos h1w] at hw2
      have hpw := pow_half a1
      have b1 : w' ≤ 2 ^ f := by rw [hw2]; exact hpw
      have b2 : 0 ≤ ix / 2 := by clear hnode; omega
      have b3 : ix / 2 < w' := by rw [hw2]; clear hnode; omega
      refine ⟨(hp nd x, ix / 2, u + 1, f), [0, 1, 2, 3, 4, 5], ⟨?_, b1, b2, b3, (hp_rng _ _).1, (hp_rng _ _).2, hul⟩, rfl, ?_⟩
      · dsimp only
        rw [hm, hdr, hw2]
        have hl : ix < ix + 1 - ix % 2 * 2 := xo_even hev
        simp only [mkl, h1w, hb, hxd, hl, if_true]
      · repeat' (first
          | ((conv => whnf); (first
            | refine brK_dec (fun _ => ?_) (fun _ => ?_)
            | refine brK_ndec (fun _ => ?_) (fun _ => ?_)
            | refine brK_not (fun _ => ?_) (fun _ => ?_)
            | refine brK_in (fun _ => ?_) (fun _ => ?_)
            | refine And.intro (by first | exact rfl | exact (by first | exact hnode | exact hnode.symm) | exact ⟨_, rfl, rfl⟩ | exact ⟨rfl, rfl, rfl⟩ | exact of_decide_eq_true rfl | exact trivial | assumption | omega | (show (_ ≤ _ ∧ _ ≤ _); omega) | (simp; omega) | exact ⟨by first | omega | (simp; omega), _, rfl, rfl⟩) ?_
            | refine Both.mk ?_ ?_
            | refine Exists.intro _ (And.intro rfl ?_)
            | refine fun _ => ?_))
          | exact rfl)
    · rename_i hb hu hev x hx
      rw [hxo] at hb
      have h1w : 1 < w := by omega
      obtain ⟨f, rfl⟩ := hfs h1w
      have hx : p[u]? = some x := hx
      have hul : u < p.length := by omega
      have hxd : inR x 0 990 = true := hall x (List.mem_of_getElem? hx)
      have hdr : p.drop u = x :: p.drop (u + 1) := by
        rw [List.drop_eq_getElem_cons hul]
        congr 1
        exact Option.some.inj ((List.getElem?_eq_getElem hul).symm.trans hx)
      have hnode : (if (inR x 0 990 && inR nd 0 990) = true then hp x nd else -1) = hp x nd := by rw [hir, hxd]; rfl
      rw [if_pos h1w] at hw2
      have hpw := pow_half a1
      have b1 : w' ≤ 2 ^ f := by rw [hw2]; exact hpw
      have b2 : 0 ≤ ix / 2 := by clear hnode; omega
      have b3 : ix / 2 < w' := by rw [hw2]; clear hnode; omega
      refine ⟨(hp x nd, ix / 2, u + 1, f), [0, 1, 2, 3, 4, 5], ⟨?_, b1, b2, b3, (hp_rng _ _).1, (hp_rng _ _).2, hul⟩, rfl, ?_⟩
      · dsimp only
        rw [hm, hdr, hw2]
        have hl : ¬ ix < ix + 1 - ix % 2 * 2 := xo_odd hev
        simp only [mkl, h1w, hb, hxd, hl, if_true, if_false]
      · repeat' (first
          | ((conv => whnf); (first
            | refine brK_dec (fun _ => ?_) (fun _ => ?_)
            | refine brK_ndec (fun _ => ?_) (fun _ => ?_)
            | refine brK_not (fun _ => ?_) (fun _ => ?_)
            | refine brK_in (fun _ => ?_) (fun _ => ?_)
            | refine And.intro (by first | exact rfl | exact (by first | exact hnode | exact hnode.symm) | exact ⟨_, rfl, rfl⟩ | exact ⟨rfl, rfl, rfl⟩ | exact of_decide_eq_true rfl | exact trivial | assumption | omega | (show (_ ≤ _ ∧ _ ≤ _); omega) | (simp; omega) | exact ⟨by first | omega | (simp; omega), _, rfl, rfl⟩) ?_
            | refine Both.mk ?_ ?_
            | refine Exists.intro _ (And.intro rfl ?_)
            | refine fun _ => ?_))
          | exact rfl)
    · rename_i hb
      rw [hxo] at hb
      by_cases h1w : 1 < w
      · obtain ⟨f, rfl⟩ := hfs h1w
        rw [if_pos h1w] at hw2
        have hpw := pow_half a1
        refine ⟨(nd, ix / 2, u, f), [0, 1, 2, 3, 4, 5], ⟨?_, by dsimp only; omega, by dsimp only; omega, by dsimp only; omega, a4, a5, a6⟩, rfl, ?_⟩
        · dsimp only
          rw [hm, hw2]
          simp only [mkl, h1w, hb, if_true, if_false]
        · repeat' (first
            | ((conv => whnf); (first
              | refine brK_dec (fun _ => ?_) (fun _ => ?_)
              | refine brK_ndec (fun _ => ?_) (fun _ => ?_)
              | refine brK_not (fun _ => ?_) (fun _ => ?_)
              | refine brK_in (fun _ => ?_) (fun _ => ?_)
              | refine And.intro (by first | exact rfl | exact ⟨_, rfl, rfl⟩ | exact ⟨rfl, rfl, rfl⟩ | exact of_decide_eq_true rfl | exact trivial | assumption | omega | (show (_ ≤ _ ∧ _ ≤ _); omega) | (simp; omega) | exact ⟨by first | omega | (simp; omega), _, rfl, rfl⟩) ?_
              | refine Both.mk ?_ ?_
              | refine Exists.intro _ (And.intro rfl ?_)
              | refine fun _ => ?_))
            | exact rfl)
      · rw [if_neg h1w] at hw2
        refine ⟨(nd, ix / 2, u, f), [0, 1, 2, 3, 4, 5], ⟨?_, by dsimp only; omega, by dsimp only; omega, by dsimp only; omega, a4, a5, a6⟩, rfl, ?_⟩
        · dsimp only
          rw [hm, mkl_stop h1w, mkl_stop (by omega)]
        · repeat' (first
            | ((conv => whnf); (first
              | refine brK_dec (fun _ => ?_) (fun _ => ?_)
              | refine brK_ndec (fun _ => ?_) (fun _ => ?_)
              | refine brK_not (fun _ => ?_) (fun _ => ?_)
              | refine brK_in (fun _ => ?_) (fun _ => ?_)
              | refine And.intro (by first | exact rfl | exact ⟨_, rfl, rfl⟩ | exact ⟨rfl, rfl, rfl⟩ | exact of_decide_eq_true rfl | exact trivial | assumption | omega | (show (_ ≤ _ ∧ _ ≤ _); omega) | (simp; omega) | exact ⟨by first | omega | (simp; omega), _, rfl, rfl⟩) ?_
              | refine Both.mk ?_ ?_
              | refine Exists.intro _ (And.intro rfl ?_)
              | refine fun _ => ?_))
            | exact rfl)
  · rintro ⟨nd, ix, u, f⟩ ⟨hm, a1, a2, a3, a4, a5, a6⟩
    dsimp only at hm a1 a2 a3 a4 a5 a6 ⊢
    have hw : wd s n = 1 := by
      obtain ⟨w1, w2, w3, w4⟩ := hn
      obtain ⟨m, rfl⟩ : ∃ m, n = m + 1 := ⟨n - 1, by omega⟩
      have w2 : wd s m = 1 := w2
      simp [wd, w2]
    rw [hw] at hm ⊢
    rw [hm, mkl_stop (by omega)] at no
    repeat' (first
      | ((conv => whnf); (first
        | refine draw_plan (id := 16) [] [5, 6] (.take 0 (.take 1 (.take 2 (.take 3 (.take 4 (.run 5 (.run 6 .done))))))) (by kernel_rfl) (by kernel_rfl) ?_
        | refine draw_plan (id := 17) [] [5, 6] (.take 0 (.take 1 (.take 2 (.take 3 (.take 4 (.run 5 (.run 6 .done))))))) (by kernel_rfl) (by kernel_rfl) ?_
        | refine brK_dec (fun _ => ?_) (fun _ => ?_)
        | refine brK_ndec (fun _ => ?_) (fun _ => ?_)
        | refine brK_not (fun _ => ?_) (fun _ => ?_)
        | refine brK_in (fun _ => ?_) (fun _ => ?_)
        | refine And.intro (by first | exact rfl | exact ⟨_, rfl, rfl⟩ | exact ⟨rfl, rfl, rfl⟩ | exact of_decide_eq_true rfl | exact trivial | assumption | omega | (show (_ ≤ _ ∧ _ ≤ _); omega) | (simp; omega) | exact ⟨by first | omega | (simp; omega), _, rfl, rfl⟩) ?_
        | refine Both.mk ?_ ?_
        | refine Exists.intro _ (And.intro rfl ?_)
        | refine fun _ => ?_))
      | exact rfl)
    · rename_i hu
      exact no (by rw [List.drop_eq_nil_of_le (by omega)])
    · rename_i hu
      refine no ?_
      rw [List.drop_eq_getElem_cons (by omega)]
end Go.Proofs.YtlhbdhccddadaaaDoor
