/-
Drawn chains of links.
No conditions.
-/
import Derived.Test.YtlhbdhccddadaaaGreatDoorDrH
import Derived.Test.YtlhbdhccddadaaaGreatDoorChB
import Derived.Test.YtlhbdhccddadaaaGreatDoorChA
namespace Go.Proofs.YtlhbdhccddadaaaGreatDoor
open Go Go.Vc
set_option maxHeartbeats 4000000
set_option maxRecDepth 10000
def c_spec_l91Members : Con := ⟨1, 1, false, fun xs hs _ K => match xs, hs with
  | [.ptr 0 0, .val (.int .i64 n)], [.cells [.bytes b, .val (.int .i64 off)]] => b.length ≤ 2000 ∧ 0 ≤ off ∧ off ≤ 900000 ∧ 0 ≤ n ∧ n ≤ 20 ∧ ∀ off' l, off ≤ off' → off' ≤ off + 100 → l.length ≤ 30 → K (.own 1) [rdO b off', .iarr l] []
  | _, _ => False⟩
theorem k_spec_l91Members : Keeps' Tryz.prog 85 c_spec_l91Members := by
  refine keeps_of_vc mix TyT_ok (cok_cons k_spec_l6Rd_pick Tryz.func33 rfl rfl cok_nil) Tryz.func85 rfl rfl rfl ?_
  intro aargs hs Fs K h
  simp only [c_spec_l91Members] at h
  split at h
  case h_2 => exact h.elim
  rename_i n b off
  obtain ⟨hb, h0, h1, hn0, hn1, h⟩ := h
  repeat' (first
    | ((conv => whnf); (first
      | refine brK_dec (fun _ => ?_) (fun _ => ?_)
      | refine brK_ndec (fun _ => ?_) (fun _ => ?_)
      | refine brK_not (fun _ => ?_) (fun _ => ?_)
      | refine brK_in (fun _ => ?_) (fun _ => ?_)
      | refine And.intro (by first | exact rfl | exact ⟨_, rfl, rfl⟩ | exact ⟨rfl, rfl, rfl⟩ | exact of_decide_eq_true rfl | exact trivial | assumption | omega | (show (_ ≤ _ ∧ _ ≤ _); omega) | (simp; omega) | exact ⟨by first | omega | (simp; omega), _, rfl, rfl⟩) ?_
      | refine Both.mk ?_ ?_
      | refine Exists.intro _ (And.intro rfl ?_)
      | refine fun _ => ?_))
    | exact rfl)
  refine loop_in (ι := Nat × Int × List Int) (fun g => mkS 37 [(0, .ptr 0 0), (1, I n), (4, .val (.slice none 0 0)), (5, .own 1), (6, I g.1)] [rdO b g.2.1, .iarr g.2.2] Fs)
    (fun g => (g.1 : Int) ≤ n ∧ off ≤ g.2.1 ∧ g.2.1 ≤ off + g.1 ∧ g.2.2.length ≤ g.1) (fun g => n.toNat - g.1) (0, off, []) [0, 1] ⟨by simp; omega, by simp, by simp, by simp⟩ ?_ ?_
  · repeat' (first
      | ((conv => whnf); (first
        | refine brK_dec (fun _ => ?_) (fun _ => ?_)
        | refine brK_ndec (fun _ => ?_) (fun _ => ?_)
        | refine brK_not (fun _ => ?_) (fun _ => ?_)
        | refine brK_in (fun _ => ?_) (fun _ => ?_)
        | refine And.intro (by first | exact rfl | exact ⟨_, rfl, rfl⟩ | exact ⟨rfl, rfl, rfl⟩ | exact of_decide_eq_true rfl | exact trivial | assumption | omega | (show (_ ≤ _ ∧ _ ≤ _); omega) | (simp; omega) | exact ⟨by first | omega | (simp; omega), _, rfl, rfl⟩) ?_
        | refine Both.mk ?_ ?_
        | refine Exists.intro _ (And.intro rfl ?_)
        | refine fun _ => ?_))
      | exact rfl)
  rintro ⟨i, o, l⟩ ⟨hi, ho1, ho2, hl⟩
  dsimp only at hi ho1 ho2 hl ⊢
  repeat' (first
    | ((conv => whnf); (first
      | refine brK_dec (fun _ => ?_) (fun _ => ?_)
      | refine brK_ndec (fun _ => ?_) (fun _ => ?_)
      | refine brK_not (fun _ => ?_) (fun _ => ?_)
      | refine brK_in (fun _ => ?_) (fun _ => ?_)
      | refine And.intro (by first | exact rfl | exact ⟨_, rfl, rfl⟩ | exact ⟨rfl, rfl, rfl⟩ | exact of_decide_eq_true rfl | exact trivial | assumption | omega | (show (_ ≤ _ ∧ _ ≤ _); omega) | (simp; omega) | exact ⟨by first | omega | (simp; omega), _, rfl, rfl⟩) ?_
      | refine Both.mk ?_ ?_
      | refine Exists.intro _ (And.intro rfl ?_)
      | refine fun _ => ?_))
    | exact rfl)
  · refine ⟨(i + 1, o + 1, List.take l.length l ++ [(i : Int)]), [0, 1], ⟨by dsimp only; omega, by dsimp only; omega, by dsimp only; omega, by dsimp only; simp; omega⟩, by dsimp only; omega, ?_⟩
    repeat' (first
      | ((conv => whnf); (first
        | refine brK_dec (fun _ => ?_) (fun _ => ?_)
        | refine brK_ndec (fun _ => ?_) (fun _ => ?_)
        | refine brK_not (fun _ => ?_) (fun _ => ?_)
        | refine brK_in (fun _ => ?_) (fun _ => ?_)
        | refine And.intro (by first | exact rfl | exact ⟨_, rfl, rfl⟩ | exact ⟨rfl, rfl, rfl⟩ | exact of_decide_eq_true rfl | exact trivial | assumption | omega | (show (_ ≤ _ ∧ _ ≤ _); omega) | (simp; omega) | exact ⟨by first | omega | (simp; omega), _, rfl, rfl⟩) ?_
        | refine Both.mk ?_ ?_
        | refine Exists.intro _ (And.intro rfl ?_)
        | refine fun _ => ?_))
      | exact rfl)
  · refine ⟨(i + 1, o + 1, l), [0, 1], ⟨by dsimp only; omega, by dsimp only; omega, by dsimp only; omega, by dsimp only; omega⟩, by dsimp only; omega, ?_⟩
    repeat' (first
      | ((conv => whnf); (first
        | refine brK_dec (fun _ => ?_) (fun _ => ?_)
        | refine brK_ndec (fun _ => ?_) (fun _ => ?_)
        | refine brK_not (fun _ => ?_) (fun _ => ?_)
        | refine brK_in (fun _ => ?_) (fun _ => ?_)
        | refine And.intro (by first | exact rfl | exact ⟨_, rfl, rfl⟩ | exact ⟨rfl, rfl, rfl⟩ | exact of_decide_eq_true rfl | exact trivial | assumption | omega | (show (_ ≤ _ ∧ _ ≤ _); omega) | (simp; omega) | exact ⟨by first | omega | (simp; omega), _, rfl, rfl⟩) ?_
        | refine Both.mk ?_ ?_
        | refine Exists.intro _ (And.intro rfl ?_)
        | refine fun _ => ?_))
      | exact rfl)
  all_goals exact h _ _ (by omega) (by omega) (by first | omega | (simp; omega))
theorem fits_set {ls : List LkD} {y : LkD} {i : Nat} (h : ∀ x ∈ ls, x.fits) (hy : y.fits) : ∀ x ∈ ls.set i y, x.fits := by
  intro x hx
  rcases List.mem_or_eq_of_mem_set hx with hx | hx
  · exact h x hx
  · rw [hx]; exact hy
theorem fits_app {ls : List LkD} {y : LkD} (h : ∀ x ∈ ls, x.fits) (hy : y.fits) : ∀ x ∈ ls ++ [y], x.fits := by
  intro x hx
  rcases List.mem_append.1 hx with hx | hx
  · exact h x hx
  · rw [List.mem_singleton.1 hx]; exact hy
def c_spec_l92Chain : Con := ⟨1, 1, true, fun xs hs _ K => match xs, hs with
  | [.ptr 0 0, .val (.int .i64 m)], [.cells [.bytes b, .val (.int .i64 off)]] => b.length ≤ 2000 ∧ 0 ≤ off ∧ off ≤ 100000 ∧ 0 ≤ m ∧ m ≤ 5 ∧
    ∀ off' (e : EpD) (ls : List LkD), off ≤ off' → off' ≤ off + 1000 → 1 ≤ e.c.length → e.c.length ≤ 20 → e.k.length = e.c.length → (∀ x ∈ ls, x.fits) → ls.length ≤ 5 →
      K (.tup [.agg [I e.n, .ints e.c, .ints e.k, I e.r], .own 1]) [rdO b off', .arr 7 (ls.map LkD.row)] []
  | _, _ => False⟩
theorem k_spec_l92Chain : Keeps' Tryz.prog 48 c_spec_l92Chain := by
  refine keeps_of_cut (r := 14) mix TyT_ok (cok_cons k_spec_l92Epoch Tryz.func31 rfl rfl (cok_cons k_spec_l92Next Tryz.func34 rfl rfl (cok_cons k_spec_l92Link Tryz.func36 rfl rfl (cok_cons k_spec_l6Rd_pick Tryz.func33 rfl rfl (cok_cons k_spec_l91Digest Tryz.func69 rfl rfl (cok_cons k_spec_l91Members Tryz.func85 rfl rfl cok_nil)))))) Tryz.func48 rfl rfl rfl rfl ?_
  intro aargs hs Fs K h
  simp only [c_spec_l92Chain] at h
  split at h
  case h_2 => exact h.elim
  rename_i m b off
  obtain ⟨hb, h0, h1, hm0, hm1, h⟩ := h
  refine ⟨Int × EpD × List LkD, fun g => mkS 105 [(0, .ptr 0 0), (4, .ptr 1 0), (5, .val (.slice none 0 0)), (6, .ptr 2 0), (9, .own 3)]
    [rdO b g.1, .cells [I 0, .val (.slice none 0 0), .val (.slice none 0 0), I 0], .cells [I g.2.1.n, .ints g.2.1.c, .ints g.2.1.k, I g.2.1.r], .arr 7 (g.2.2.map LkD.row)] Fs,
    fun g => off ≤ g.1 ∧ g.1 ≤ off + 800 ∧ 1 ≤ g.2.1.c.length ∧ g.2.1.c.length ≤ 20 ∧ g.2.1.k.length = g.2.1.c.length ∧ (∀ x ∈ g.2.2, x.fits) ∧ g.2.2.length ≤ 5, ?_, ?_⟩
  · repeat' (first
      | ((conv => whnf); (first
        | refine brK_dec (fun _ => ?_) (fun _ => ?_)
        | refine brK_ndec (fun _ => ?_) (fun _ => ?_)
        | refine brK_not (fun _ => ?_) (fun _ => ?_)
        | refine brK_in (fun _ => ?_) (fun _ => ?_)
        | refine And.intro (by first | exact rfl | exact ⟨_, rfl, rfl⟩ | exact ⟨rfl, rfl, rfl⟩ | exact of_decide_eq_true rfl | exact trivial | assumption | omega | (show (_ ≤ _ ∧ _ ≤ _); omega) | (simp; omega) | exact ⟨by first | omega | (simp; omega), _, rfl, rfl⟩) ?_
        | refine Both.mk ?_ ?_
        | refine Exists.intro _ (And.intro rfl ?_)
        | refine fun _ => ?_))
      | exact rfl)
    rename_i o1 n c k r s p1 p2 p3 p4 p5 p6 p7 p8 p9 p10 p11
    refine loop_in (ι := Nat × Int × EpD × List Int × List LkD) (fun g => mkS 105 [(0, .ptr 0 0), (1, I m), (4, .ptr 1 0), (5, .val (.slice none 0 0)), (6, .ptr 2 0), (7, .ints g.2.2.2.1), (8, .ptr 3 0), (9, .own 4), (10, I g.1)]
      [rdO b g.2.1, .cells [I 0, .val (.slice none 0 0), .val (.slice none 0 0), I 0], .cells [I n, .ints c, .ints k, I r], .cells [I g.2.2.1.n, .ints g.2.2.1.c, .ints g.2.2.1.k, I g.2.2.1.r], .arr 7 (g.2.2.2.2.map LkD.row)] Fs)
      (fun g => (g.1 : Int) ≤ m ∧ off ≤ g.2.1 ∧ g.2.1 ≤ off + 300 + 60 * g.1 ∧ 0 ≤ g.2.2.1.n ∧ g.2.2.1.n ≤ 99 + g.1 ∧ 1 ≤ g.2.2.1.c.length ∧ g.2.2.1.c.length ≤ 20 ∧ g.2.2.1.k.length = g.2.2.1.c.length ∧ g.2.2.2.1.length = g.2.2.1.c.length ∧ (∀ x ∈ g.2.2.2.2, x.fits) ∧ g.2.2.2.2.length ≤ g.1)
      (fun g => m.toNat - g.1) (0, o1, ⟨n, c, k, r⟩, s, []) [0, 1, 5, 6, 7] ⟨by simp; omega, p1, by simp; omega, p3, by simp; omega, p7, p8, p10, p11, by simp, by simp⟩ ?_ ?_
    · repeat' (first
        | ((conv => whnf); (first
          | refine brK_dec (fun _ => ?_) (fun _ => ?_)
          | refine brK_ndec (fun _ => ?_) (fun _ => ?_)
          | refine brK_not (fun _ => ?_) (fun _ => ?_)
          | refine brK_in (fun _ => ?_) (fun _ => ?_)
          | refine And.intro (by first | exact rfl | exact ⟨_, rfl, rfl⟩ | exact ⟨rfl, rfl, rfl⟩ | exact of_decide_eq_true rfl | exact trivial | assumption | omega | (show (_ ≤ _ ∧ _ ≤ _); omega) | (simp; omega) | exact ⟨by first | omega | (simp; omega), _, rfl, rfl⟩) ?_
          | refine Both.mk ?_ ?_
          | refine Exists.intro _ (And.intro rfl ?_)
          | refine fun _ => ?_))
        | exact rfl)
    rintro ⟨i, o, ⟨n1, c1, k1, r1⟩, s1, ls⟩ ⟨w1, w2, w3, w4, w5, w6, w7, w8, w9, w10, w11⟩
    dsimp only at w1 w2 w3 w4 w5 w6 w7 w8 w9 w10 w11 ⊢
    have hlen : (ls.map LkD.row).length = ls.length := by simp
    repeat' (first
      | ((conv => whnf); (first
        | refine brK_dec (fun _ => ?_) (fun _ => ?_)
        | refine brK_ndec (fun _ => ?_) (fun _ => ?_)
        | refine brK_not (fun _ => ?_) (fun _ => ?_)
        | refine brK_in (fun _ => ?_) (fun _ => ?_)
        | refine And.intro (by first | exact rfl | exact (by first | exact Nat.le_trans (Nat.mul_le_mul_right _ (show _ ≤ 100 from by simp [chunks]; omega)) (by decide) | (simp [chunks]; omega)) | exact ⟨_, rfl, rfl⟩ | exact ⟨rfl, rfl, rfl⟩ | exact of_decide_eq_true rfl | exact trivial | assumption | omega | (show (_ ≤ _ ∧ _ ≤ _); omega) | (simp; omega) | exact ⟨by first | omega | (simp; omega), _, rfl, rfl⟩) ?_
        | refine Both.mk ?_ ?_
        | refine Exists.intro _ (And.intro rfl ?_)
        | refine fun _ => ?_))
      | exact rfl)
    · rename_i him o2 c2 k2 r2 s2 u1 u2 u3 u4 u5 u6 o3 d3 s3 m3 v1 v2 v3
      refine ⟨(i + 1, o3, ⟨n1 + 1, c2, k2, r2⟩, s2, ls ++ [⟨⟨n1 + 1, c2, k2, r2⟩, d3, s3, m3⟩]), [0, 1, 2, 3, 4], ⟨by dsimp only; omega, by dsimp only; omega, by dsimp only; omega, by dsimp only; omega, by dsimp only; omega, u3, u4, u5, u6, fits_app w10 ⟨by dsimp only; omega, by dsimp only; omega, v3⟩, by dsimp only; simp; omega⟩, by dsimp only; omega, ?_⟩
      repeat' (first
        | ((conv => whnf); (first
          | refine brK_dec (fun _ => ?_) (fun _ => ?_)
          | refine brK_ndec (fun _ => ?_) (fun _ => ?_)
          | refine brK_not (fun _ => ?_) (fun _ => ?_)
          | refine brK_in (fun _ => ?_) (fun _ => ?_)
          | refine And.intro (by first | exact rfl | exact (by rw [List.take_length, List.map_append]; rfl) | exact ⟨_, rfl, rfl⟩ | exact ⟨rfl, rfl, rfl⟩ | exact of_decide_eq_true rfl | exact trivial | assumption | omega | (show (_ ≤ _ ∧ _ ≤ _); omega) | (simp; omega) | exact ⟨by first | omega | (simp; omega), _, rfl, rfl⟩) ?_
          | refine Both.mk ?_ ?_
          | refine Exists.intro _ (And.intro rfl ?_)
          | refine fun _ => ?_))
        | exact rfl)
    · exact h _ ⟨n, c, k, r⟩ ls (by omega) (by omega) p7 p8 p10 w10 (by omega)
    · (conv => whnf)
      refine ⟨(o, ⟨n, c, k, r⟩, ls), [0, 1, 2, 4], ⟨w2, by dsimp only; omega, p7, p8, p10, w10, by dsimp only; omega⟩, ?_⟩
      repeat' (first
        | ((conv => whnf); (first
          | refine brK_dec (fun _ => ?_) (fun _ => ?_)
          | refine brK_ndec (fun _ => ?_) (fun _ => ?_)
          | refine brK_not (fun _ => ?_) (fun _ => ?_)
          | refine brK_in (fun _ => ?_) (fun _ => ?_)
          | refine And.intro (by first | exact rfl | exact ⟨_, rfl, rfl⟩ | exact ⟨rfl, rfl, rfl⟩ | exact of_decide_eq_true rfl | exact trivial | assumption | omega | (show (_ ≤ _ ∧ _ ≤ _); omega) | (simp; omega) | exact ⟨by first | omega | (simp; omega), _, rfl, rfl⟩) ?_
          | refine Both.mk ?_ ?_
          | refine Exists.intro _ (And.intro rfl ?_)
          | refine fun _ => ?_))
        | exact rfl)
  · rintro ⟨o, ⟨n, c, k, r⟩, ls⟩ ⟨q1, q2, q3, q4, q5, q6, q7⟩
    dsimp only at q1 q2 q3 q4 q5 q6 q7 ⊢
    have hlen : (ls.map LkD.row).length = ls.length := by simp
    repeat' (first
      | ((conv => whnf); (first
        | refine draw_plan (id := 23) [0,3] [] (.take 1 (.take 2 (.take 3 (.take 5 (.take 6 (.take 7 (.take 8 (.run 0 (.run 4 (.run 9 (.take 10 .done))))))))))) (by kernel_rfl) (by kernel_rfl) ?_
        | refine brK_dec (fun _ => ?_) (fun _ => ?_)
        | refine brK_ndec (fun _ => ?_) (fun _ => ?_)
        | refine brK_not (fun _ => ?_) (fun _ => ?_)
        | refine brK_in (fun _ => ?_) (fun _ => ?_)
        | refine And.intro (by first | exact rfl | exact (by first | exact Nat.le_trans (Nat.mul_le_mul_right _ (show _ ≤ 100 from by simp [chunks]; omega)) (by decide) | (simp [chunks]; omega)) | exact ⟨_, rfl, rfl⟩ | exact ⟨rfl, rfl, rfl⟩ | exact of_decide_eq_true rfl | exact trivial | assumption | omega | (show (_ ≤ _ ∧ _ ≤ _); omega) | (simp; omega) | exact ⟨by first | omega | (simp; omega), _, rfl, rfl⟩) ?_
        | refine Both.mk ?_ ?_
        | refine Exists.intro _ (And.intro rfl ?_)
        | refine fun _ => ?_))
      | exact rfl)
    · exact h o ⟨n, c, k, r⟩ ls q1 (by omega) q3 q4 q5 q6 q7
    · rename_i hne m m0 m1 z z0 z1 hz o5 v v1 v2 v3 v4 e he
      obtain ⟨x, hx, rfl⟩ := row_at he
      have e1 : (ls.map LkD.row).set m.toNat (splice x.row 3 [I v]) = (ls.set m.toNat ⟨⟨x.e.n, x.e.c, x.e.k, v⟩, x.d, x.s, x.m⟩).map LkD.row := by rw [List.map_set]; rfl
      have hfx := q6 x (List.mem_of_getElem? hx)
      rw [e1]
      exact h o5 ⟨n, c, k, r⟩ _ (by omega) (by omega) q3 q4 q5 (fits_set q6 hfx) (by simp; omega)
    · rename_i hne m m0 m1 z z0 z1 hz hz2 v v1 v2 e he
      obtain ⟨x, hx, rfl⟩ := row_at he
      have e1 : (ls.map LkD.row).set m.toNat (splice x.row 6 [I v]) = (ls.set m.toNat ⟨x.e, x.d, x.s, v⟩).map LkD.row := by rw [List.map_set]; rfl
      have hfx := q6 x (List.mem_of_getElem? hx)
      rw [e1]
      exact h _ ⟨n, c, k, r⟩ _ (by omega) (by omega) q3 q4 q5 (fits_set q6 hfx) (by simp; omega)
    rotate_left
    · rename_i hne m m0 m1 z z0 z1 hz hz2 hz3 hz4 o5 v v1 v2 v3 e he
      obtain ⟨x, hx, rfl⟩ := row_at he
      have e1 : (ls.map LkD.row).set m.toNat (splice x.row 5 [.ints v]) = (ls.set m.toNat ⟨x.e, x.d, v, x.m⟩).map LkD.row := by rw [List.map_set]; rfl
      have hfx := q6 x (List.mem_of_getElem? hx)
      have e2 := h o5 ⟨n, c, k, r⟩ _ (by omega) (by omega) q3 q4 q5 (fits_set (i := m.toNat) (y := ⟨x.e, x.d, v, x.m⟩) q6 ⟨hfx.1, hfx.2.1, v3⟩) (by simp; omega)
      rw [← e1] at e2
      exact e2
    · exact h _ ⟨n, c, k, r⟩ ls (by omega) (by omega) q3 q4 q5 q6 q7
    rename_i hne m m0 m1 z z0 z1 hz hz2 hz3
    have hml : m.toNat < ls.length := by omega
    have e2 := h (o + 1 + 1) ⟨n, c, k, r⟩ (ls.take m.toNat ++ ls.drop (m + 1).toNat) (by omega) (by omega) q3 q4 q5 (fun x hx => (List.mem_append.1 hx).elim (fun q => q6 x (List.mem_of_mem_take q)) fun q => q6 x (List.mem_of_mem_drop q)) (by simp; omega)
    have e3 : ∀ R, R = (ls.take m.toNat ++ ls.drop (m + 1).toNat).map LkD.row → K (.tup [.agg [I n, .ints c, .ints k, I r], .own 1]) [rdO b (o + 1 + 1), .arr 7 R] [] := fun R hR => by rw [hR]; exact e2
    refine e3 _ ?_
    rw [List.map_append, List.map_take, List.map_drop]
    have f1 : List.take (min m.toNat ls.length) (List.take m.toNat (ls.map LkD.row)) = List.take m.toNat (ls.map LkD.row) := List.take_of_length_le (by simp)
    have f2 : List.take (ls.length - (m + 1).toNat) (List.drop (m + 1).toNat (ls.map LkD.row)) = List.drop (m + 1).toNat (ls.map LkD.row) := List.take_of_length_le (by simp)
    simp [chunks]
    rw [f1, f2]
end Go.Proofs.YtlhbdhccddadaaaGreatDoor
