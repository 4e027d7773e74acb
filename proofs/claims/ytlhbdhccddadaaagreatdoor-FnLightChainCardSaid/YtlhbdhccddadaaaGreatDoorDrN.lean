/-
Drawn chains with a receipt and its proof.
No conditions.
-/
import Derived.Test.YtlhbdhccddadaaaGreatDoorDrM
import Derived.Test.YtlhbdhccddadaaaGreatDoorDrK
namespace Go.Proofs.YtlhbdhccddadaaaGreatDoor
open Go Go.Vc
set_option maxHeartbeats 8000000
set_option maxRecDepth 10000
def c_spec_DrawLightAccept : Con := ⟨1, 0, true, fun xs hs _ K => match xs with
  | [.bytes b] => hs = [] ∧ b.length ≤ 1048576 ∧ ∀ (e : EpD) (ls : List LkD) (s i : Int) (d : Bool) (g : Int) (p : List Int), e.small → (∀ x ∈ ls, x.small) → ls.length ≤ 5 → p.length < 2000000 →
      Both (K (.tup [.agg [I e.n, .ints e.c, .ints e.k, I e.r], .own 0, I s, .agg [I i, B d, I g], .ints p]) [.arr 7 (ls.map LkD.row)] [])
        (K (.tup [.agg [I e.n, .ints e.c, .ints e.k, I e.r], .sl 7 (ls.map LkD.row), I s, .agg [I i, B d, I g], .ints p]) [] [])
  | _ => False⟩
theorem k_spec_DrawLightAccept : Keeps' Tryz.prog 12 c_spec_DrawLightAccept := by
  refine keeps_of_cut (r := 20) mix TyT_ok (cok_cons k_spec_l6Open Tryz.func30 rfl rfl (cok_cons k_spec_l92Epoch Tryz.func31 rfl rfl (cok_cons k_spec_l92Proof Tryz.func32 rfl rfl (cok_cons k_spec_l6Rd_pick Tryz.func33 rfl rfl (cok_cons k_spec_l92Next Tryz.func34 rfl rfl (cok_cons k_spec_ReceiptsRoot Tryz.func35 rfl rfl (cok_cons k_spec_l92Link Tryz.func36 rfl rfl cok_nil))))))) Tryz.func12 rfl rfl rfl rfl ?_
  intro aargs hs Fs K h
  simp only [c_spec_DrawLightAccept] at h
  split at h
  case h_2 => exact h.elim
  rename_i b
  obtain ⟨rfl, hb, h⟩ := h
  refine ⟨EpD × List LkD × List (Int × Bool × Int) × (Int × Bool × Int) × List Int, fun g => mkS 98 [(2, .ptr 0 0), (3, .val (.slice none 0 0)), (4, I 0), (5, .ptr 1 0), (6, .val (.slice none 0 0)), (8, .ptr 2 0), (10, .sl 3 (g.2.2.1.map rcRow)), (11, .ptr 3 0), (12, .ints g.2.2.2.2), (14, .sl 7 (g.2.1.map LkD.row))]
    [.cells [I 0, .val (.slice none 0 0), .val (.slice none 0 0), I 0], .cells [I 0, B false, I 0], .cells [I g.1.n, .ints g.1.c, .ints g.1.k, I g.1.r], .cells [I g.2.2.2.1.1, B g.2.2.2.1.2.1, I g.2.2.2.1.2.2]] Fs,
    fun g => g.1.small ∧ (∀ x ∈ g.2.1, x.small) ∧ g.2.1.length ≤ 5 ∧ g.2.2.2.2.length < 2000000, ?_, ?_⟩
  · repeat' (first
      | ((conv => whnf); (first
        | refine draw_plan (id := 14) [] [] (.take 0 (.take 1 (.take 2 (.take 3 (.take 4 (.take 5 (.run 6 (.take 7 (.take 8 (.run 9 (.take 10 .done))))))))))) (by kernel_rfl) (by kernel_rfl) ?_
        | refine draw_plan (id := 20) [] [] (.take 0 (.take 1 (.take 2 (.take 3 (.take 4 (.take 5 (.run 6 (.take 7 (.take 8 (.run 9 (.take 10 .done))))))))))) (by kernel_rfl) (by kernel_rfl) ?_
        | refine brK_dec (fun _ => ?_) (fun _ => ?_)
        | refine brK_ndec (fun _ => ?_) (fun _ => ?_)
        | refine brK_not (fun _ => ?_) (fun _ => ?_)
        | refine brK_in (fun _ => ?_) (fun _ => ?_)
        | refine And.intro (by first | exact rfl | exact ⟨_, rfl, rfl⟩ | exact ⟨rfl, rfl, rfl⟩ | exact of_decide_eq_true rfl | exact trivial | assumption | omega | (show (_ ≤ _ ∧ _ ≤ _); omega) | (simp; omega) | exact ⟨by first | omega | (simp; omega), _, rfl, rfl⟩) ?_
        | refine Both.mk ?_ ?_
        | refine Exists.intro _ (And.intro rfl ?_)
        | refine fun _ => ?_))
      | exact rfl)
    rename_i b1 hb1 o1 n c k r s p1 p2 p3 p4 p5 p6 p7 p8 p9 p10 p11 o2 rs ri rd rg rp u1 u2 u3 u4
    refine loop_in (ι := Nat × Int × EpD × List Int × List LkD) (fun g => mkS 98 [(2, .ptr 0 0), (3, .val (.slice none 0 0)), (4, I 0), (5, .ptr 1 0), (6, .val (.slice none 0 0)), (7, .ptr 2 0), (8, .ptr 3 0), (9, .ints g.2.2.2.1), (10, .sl 3 (rs.map rcRow)), (11, .ptr 4 0), (12, .ints rp), (13, .ptr 5 0), (14, .own 6), (15, I g.1)]
      [.cells [I 0, .val (.slice none 0 0), .val (.slice none 0 0), I 0], .cells [I 0, B false, I 0], rdO b1 g.2.1, .cells [I n, .ints c, .ints k, I r], .cells [I ri, B rd, I rg], .cells [I g.2.2.1.n, .ints g.2.2.1.c, .ints g.2.2.1.k, I g.2.2.1.r], .arr 7 (g.2.2.2.2.map LkD.row)] Fs)
      (fun g => g.1 ≤ 3 ∧ 0 ≤ g.2.1 ∧ g.2.1 ≤ 1000 + 100 * g.1 ∧ 0 ≤ g.2.2.1.n ∧ g.2.2.1.n ≤ 99 + g.1 ∧ 1 ≤ g.2.2.1.c.length ∧ g.2.2.1.c.length ≤ 20 ∧ g.2.2.1.k.length = g.2.2.1.c.length ∧ g.2.2.2.1.length = g.2.2.1.c.length ∧ (∀ x ∈ g.2.2.2.2, x.fits) ∧ g.2.2.2.2.length = g.1)
      (fun g => 3 - g.1) (0, o2, ⟨n, c, k, r⟩, s, []) [0, 1, 2, 6, 8, 9, 10] ⟨by dsimp only; omega, by dsimp only; omega, by dsimp only; omega, p3, by dsimp only; omega, p7, p8, p10, p11, by simp, rfl⟩ ?_ ?_
    · repeat' (first
        | ((conv => whnf); (first
          | refine brK_dec (fun _ => ?_) (fun _ => ?_)
          | refine brK_ndec (fun _ => ?_) (fun _ => ?_)
          | refine brK_not (fun _ => ?_) (fun _ => ?_)
          | refine brK_in (fun _ => ?_) (fun _ => ?_)
          | refine And.intro (by first | exact rfl | exact ⟨_, rfl, rfl⟩ | exact ⟨rfl, rfl, rfl⟩ | exact of_decide_eq_true rfl | exact trivial | assumption | omega | (show (_ ≤ _ ∧ _ ≤ _); omega) | (simp; omega) | exact ⟨by first | omega | (simp; omega), _, rfl, rfl⟩) ?_
          | refine Both.mk ?_ ?_
          | refine Exists.intro _ (And.intro rfl ?_)
          | refine fun _ => ?_))
        | exact rfl)
    rintro ⟨i, o, ⟨n1, c1, k1, r1⟩, s1, ls⟩ ⟨w1, w2, w3, w4, w5, w6, w7, w8, w9, w10, w11⟩
    dsimp only at w1 w2 w3 w4 w5 w6 w7 w8 w9 w10 w11 ⊢
    have hlen : (ls.map LkD.row).length = ls.length := by simp
    have hlen2 : (rs.map rcRow).length = rs.length := by simp
    have fin := h ⟨n, c, k, r⟩ ls (rs.map rcRow).length ri rd rg rp ⟨by dsimp only; omega, by dsimp only; omega⟩ (fun x hx => LkD.fits_small (w10 x hx)) (by omega) (by omega)
    repeat' (first
      | ((conv => whnf); (first
        | refine draw_plan (id := 14) [0,1] [] (.take 0 (.take 1 (.take 2 (.take 3 (.take 4 (.take 5 (.run 6 (.take 7 (.take 8 (.run 9 (.take 10 .done))))))))))) (by kernel_rfl) (by kernel_rfl) ?_
        | refine draw_plan (id := 20) [0,1] [] (.take 0 (.take 1 (.take 2 (.take 3 (.take 4 (.take 5 (.run 6 (.take 7 (.take 8 (.run 9 (.take 10 .done))))))))))) (by kernel_rfl) (by kernel_rfl) ?_
        | refine brK_dec (fun _ => ?_) (fun _ => ?_)
        | refine brK_ndec (fun _ => ?_) (fun _ => ?_)
        | refine brK_not (fun _ => ?_) (fun _ => ?_)
        | refine brK_in (fun _ => ?_) (fun _ => ?_)
        | refine And.intro (by first | exact rfl | exact (by first | exact ⟨rs, rfl, by omega, fun _ _ _ => trivial⟩ | exact Nat.le_trans (Nat.mul_le_mul_right _ (show _ ≤ 100 from by simp [chunks]; omega)) (by decide) | (simp [chunks]; omega)) | exact ⟨_, rfl, rfl⟩ | exact ⟨rfl, rfl, rfl⟩ | exact of_decide_eq_true rfl | exact trivial | assumption | omega | (show (_ ≤ _ ∧ _ ≤ _); omega) | (simp; omega) | exact ⟨by first | omega | (simp; omega), _, rfl, rfl⟩) ?_
        | refine Both.mk ?_ ?_
        | refine Exists.intro _ (And.intro rfl ?_)
        | refine fun _ => ?_))
      | exact rfl)
    · rename_i v hv0 hv1 hlt o2 c2 k2 r2 s2 t1 t2 t3 t4 t5 t6 z hz0 hz1 hz2 hz3 rt hr0 hr1 mx hm1 hm2 hm3 o3 d3 s3 m3 v1 v2 v3
      refine ⟨(i + 1, o3, ⟨n1 + 1, c2, k2, mx⟩, s2, ls ++ [⟨⟨n1 + 1, c2, k2, mx⟩, d3, s3, m3⟩]), [0, 1, 2, 3, 4, 5, 6], ⟨by dsimp only; omega, by dsimp only; omega, by dsimp only; omega, by dsimp only; omega, by dsimp only; omega, t3, t4, t5, t6, fits_app w10 ⟨by dsimp only; omega, by dsimp only; omega, v3⟩, by dsimp only; simp; omega⟩, by dsimp only; omega, ?_⟩
      repeat' (first
        | ((conv => whnf); (first
          | refine brK_dec (fun _ => ?_) (fun _ => ?_)
          | refine brK_ndec (fun _ => ?_) (fun _ => ?_)
          | refine brK_not (fun _ => ?_) (fun _ => ?_)
          | refine brK_in (fun _ => ?_) (fun _ => ?_)
          | refine And.intro (by first | exact rfl | exact (by rw [List.take_length, List.map_append]; rfl) | exact ⟨_, rfl, rfl⟩ | exact ⟨rfl, rfl, rfl⟩ | exact of_decide_eq_true rfl | exact trivial | assumption | omega | (show (_ ≤ _ ∧ _ ≤ _); omega) | (simp; omega) | exact ⟨by first | omega | (simp; omega), _, rfl, rfl⟩) ?_
          | refine Both.mk ?_ ?_
          | refine Exists.intro _ (And.intro rfl ?_)
          | refine fun _ => ?_))
        | exact rfl)
    · exact fin.l
    · rename_i v hv0 hv1 hlt o2 c2 k2 r2 s2 t1 t2 t3 t4 t5 t6 z hz0 hz1 hz2 hz3 o3 d3 s3 m3 v1 v2 v3
      refine ⟨(i + 1, o3, ⟨n1 + 1, c2, k2, r2⟩, s2, ls ++ [⟨⟨n1 + 1, c2, k2, r2⟩, d3, s3, m3⟩]), [0, 1, 2, 3, 4, 5, 6], ⟨by dsimp only; omega, by dsimp only; omega, by dsimp only; omega, by dsimp only; omega, by dsimp only; omega, t3, t4, t5, t6, fits_app w10 ⟨by dsimp only; omega, by dsimp only; omega, v3⟩, by dsimp only; simp; omega⟩, by dsimp only; omega, ?_⟩
      repeat' (first
        | ((conv => whnf); (first
          | refine brK_dec (fun _ => ?_) (fun _ => ?_)
          | refine brK_ndec (fun _ => ?_) (fun _ => ?_)
          | refine brK_not (fun _ => ?_) (fun _ => ?_)
          | refine brK_in (fun _ => ?_) (fun _ => ?_)
          | refine And.intro (by first | exact rfl | exact (by rw [List.take_length, List.map_append]; rfl) | exact ⟨_, rfl, rfl⟩ | exact ⟨rfl, rfl, rfl⟩ | exact of_decide_eq_true rfl | exact trivial | assumption | omega | (show (_ ≤ _ ∧ _ ≤ _); omega) | (simp; omega) | exact ⟨by first | omega | (simp; omega), _, rfl, rfl⟩) ?_
          | refine Both.mk ?_ ?_
          | refine Exists.intro _ (And.intro rfl ?_)
          | refine fun _ => ?_))
        | exact rfl)
    · exact fin.l
    · rename_i v hv0 hv1 hlt o2 c2 k2 r2 s2 t1 t2 t3 t4 t5 t6 z hz0 hz1 hz2 o3 d3 s3 m3 v1 v2 v3
      refine ⟨(i + 1, o3, ⟨n1 + 1, c2, k2, r2⟩, s2, ls ++ [⟨⟨n1 + 1, c2, k2, r2⟩, d3, s3, m3⟩]), [0, 1, 2, 3, 4, 5, 6], ⟨by dsimp only; omega, by dsimp only; omega, by dsimp only; omega, by dsimp only; omega, by dsimp only; omega, t3, t4, t5, t6, fits_app w10 ⟨by dsimp only; omega, by dsimp only; omega, v3⟩, by dsimp only; simp; omega⟩, by dsimp only; omega, ?_⟩
      repeat' (first
        | ((conv => whnf); (first
          | refine brK_dec (fun _ => ?_) (fun _ => ?_)
          | refine brK_ndec (fun _ => ?_) (fun _ => ?_)
          | refine brK_not (fun _ => ?_) (fun _ => ?_)
          | refine brK_in (fun _ => ?_) (fun _ => ?_)
          | refine And.intro (by first | exact rfl | exact (by rw [List.take_length, List.map_append]; rfl) | exact ⟨_, rfl, rfl⟩ | exact ⟨rfl, rfl, rfl⟩ | exact of_decide_eq_true rfl | exact trivial | assumption | omega | (show (_ ≤ _ ∧ _ ≤ _); omega) | (simp; omega) | exact ⟨by first | omega | (simp; omega), _, rfl, rfl⟩) ?_
          | refine Both.mk ?_ ?_
          | refine Exists.intro _ (And.intro rfl ?_)
          | refine fun _ => ?_))
        | exact rfl)
    · exact fin.l
    · rename_i v hv0 hv1 hge z hz0 hz1 hz m hm0 hm1
      have e1 : (ls.drop m.toNat).map LkD.row = List.take ((ls.map LkD.row).length - m.toNat) (List.drop m.toNat (ls.map LkD.row)) := by
        rw [List.take_of_length_le (by simp), List.map_drop]
      (conv => whnf)
      refine ⟨(⟨n, c, k, r⟩, ls.drop m.toNat, rs, (ri, rd, rg), rp), [0, 1, 3, 4], ⟨⟨by dsimp only; omega, by dsimp only; omega⟩, fun x hx => LkD.fits_small (w10 x (List.mem_of_mem_drop hx)), by dsimp only; simp; omega, by dsimp only; omega⟩, ?_⟩
      dsimp only
      rw [e1]
      repeat' (first
        | ((conv => whnf); (first
          | refine brK_dec (fun _ => ?_) (fun _ => ?_)
          | refine brK_ndec (fun _ => ?_) (fun _ => ?_)
          | refine brK_not (fun _ => ?_) (fun _ => ?_)
          | refine brK_in (fun _ => ?_) (fun _ => ?_)
          | refine And.intro (by first | exact rfl | exact ⟨_, rfl, rfl⟩ | exact ⟨rfl, rfl, rfl⟩ | exact of_decide_eq_true rfl | exact trivial | assumption | omega | (show (_ ≤ _ ∧ _ ≤ _); omega) | (simp; omega) | exact ⟨by first | omega | (simp; omega), _, rfl, rfl⟩) ?_
          | refine Both.mk ?_ ?_
          | refine Exists.intro _ (And.intro rfl ?_)
          | refine fun _ => ?_))
        | exact rfl)
    · (conv => whnf)
      refine ⟨(⟨n, c, k, r⟩, ls, rs, (ri, rd, rg), rp), [0, 1, 3, 4], ⟨⟨by dsimp only; omega, by dsimp only; omega⟩, fun x hx => LkD.fits_small (w10 x hx), by dsimp only; omega, by dsimp only; omega⟩, ?_⟩
      repeat' (first
        | ((conv => whnf); (first
          | refine brK_dec (fun _ => ?_) (fun _ => ?_)
          | refine brK_ndec (fun _ => ?_) (fun _ => ?_)
          | refine brK_not (fun _ => ?_) (fun _ => ?_)
          | refine brK_in (fun _ => ?_) (fun _ => ?_)
          | refine And.intro (by first | exact rfl | exact ⟨_, rfl, rfl⟩ | exact ⟨rfl, rfl, rfl⟩ | exact of_decide_eq_true rfl | exact trivial | assumption | omega | (show (_ ≤ _ ∧ _ ≤ _); omega) | (simp; omega) | exact ⟨by first | omega | (simp; omega), _, rfl, rfl⟩) ?_
          | refine Both.mk ?_ ?_
          | refine Exists.intro _ (And.intro rfl ?_)
          | refine fun _ => ?_))
        | exact rfl)
  · rintro ⟨⟨n, c, k, r⟩, ls, rs, ⟨ri, rd, rg⟩, rp⟩ ⟨q1, q2, q3, q4⟩
    dsimp only at q1 q2 q3 q4 ⊢
    have hlen : (ls.map LkD.row).length = ls.length := by simp
    have h := h ⟨n, c, k, r⟩ ls (rs.map rcRow).length ri rd rg rp q1 q2 q3 q4
    repeat' (first
      | ((conv => whnf); (first
        | refine draw_plan (id := 14) [0,1] [] (.take 0 (.take 1 (.take 2 (.take 3 (.take 4 (.take 5 (.run 6 (.take 7 (.take 8 (.run 9 (.take 10 .done))))))))))) (by kernel_rfl) (by kernel_rfl) ?_
        | refine draw_plan (id := 20) [0,1] [] (.take 0 (.take 1 (.take 2 (.take 3 (.take 4 (.take 5 (.run 6 (.take 7 (.take 8 (.run 9 (.take 10 .done))))))))))) (by kernel_rfl) (by kernel_rfl) ?_
        | refine brK_dec (fun _ => ?_) (fun _ => ?_)
        | refine brK_ndec (fun _ => ?_) (fun _ => ?_)
        | refine brK_not (fun _ => ?_) (fun _ => ?_)
        | refine brK_in (fun _ => ?_) (fun _ => ?_)
        | refine And.intro (by first | exact rfl | exact ⟨_, rfl, rfl⟩ | exact ⟨rfl, rfl, rfl⟩ | exact of_decide_eq_true rfl | exact trivial | assumption | omega | (show (_ ≤ _ ∧ _ ≤ _); omega) | (simp; omega) | exact ⟨by first | omega | (simp; omega), _, rfl, rfl⟩) ?_
        | refine Both.mk ?_ ?_
        | refine Exists.intro _ (And.intro rfl ?_)
        | refine fun _ => ?_))
      | exact rfl)
    all_goals exact h.r
end Go.Proofs.YtlhbdhccddadaaaGreatDoor
