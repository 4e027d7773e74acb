/-
The reference's answers about the order.
No conditions.
-/
import Derived.Test.YtkabnbjlglippaaGreatDoorOgA
import Derived.Test.YtkabnbjlglippaaGreatDoorOiX
namespace Go.Proofs.YtkabnbjlglippaaGreatDoor
open Go Go.Vc
set_option maxHeartbeats 4000000
set_option maxRecDepth 10000
noncomputable def c_spec_OrderSlots : Con := ⟨1, 0, false, fun xs hs _ K => match xs with
  | [.ints c, .sl 4 rows, .ints L] => hs = [] ∧ ∃ g : List VxD, rows = g.map VxD.row ∧ c.length < 2000000 ∧ g.length < 2000000 ∧ (∀ v ∈ g, v.p.length < 2000000) ∧ L.length < 2000000 ∧ K (.own 0) [.arr 2 ((slotsP c g L).map pR)] []
  | _ => False⟩
theorem ordV_bound {g : List VxD} {L : List Int} {W : List Nat} : ∀ k ∈ (ordV g L W).map (·.1), k < g.length := by
  intro k hk
  obtain ⟨⟨a, b⟩, h1, rfl⟩ := List.mem_map.1 hk
  exact (ord_mem.1 h1).2.1
theorem ordV_len {g : List VxD} {L : List Int} {W : List Nat} : ((ordV g L W).map (·.1)).length ≤ W.length * g.length := by
  have := ordO_len (g := g) (L := L) (W := W)
  have e : (ordX g L W).length = (ordO g L W).length := by rw [ordX_of, List.length_map]
  rw [ordX_eq, List.length_map] at e
  rw [List.length_map]
  omega
theorem slotsO_idx {c : List Int} {g : List VxD} {L : List Int} (h : okO c g L = true) : slotsO c g L = ((ordV g L (outV c g L)).map (·.1)).map (gAt g) := by
  rw [slotsO, if_pos h, ordX_eq, List.map_map]
  rfl
theorem okO_no {c : List Int} {g : List VxD} {L : List Int} (h : okO c g L = false) : slotsO c g L = [] := by
  rw [slotsO, h]
  rfl
theorem k_spec_OrderSlots : Keeps' Tryz.prog 25 c_spec_OrderSlots := by
  refine keeps_of_vc mix TyT_ok (cok_cons k_spec_l21Ok Tryz.func49 rfl rfl (cok_cons k_spec_l22Order Tryz.func50 rfl rfl cok_nil)) Tryz.func25 rfl rfl rfl ?_
  intro aargs hs Fs K h
  simp only [c_spec_OrderSlots] at h
  split at h
  case h_2 => exact h.elim
  rename_i c rows L
  obtain ⟨rfl, g, rfl, hc, hg, hp, hL, h⟩ := h
  have hlen : (g.map VxD.row).length = g.length := by simp
  repeat' (first|((conv=>whnf); (first|refine brK_dec (fun _=>?_) (fun _=>?_)|refine brK_ndec (fun _=>?_) (fun _=>?_)|refine brK_not (fun _=>?_) (fun _=>?_)|refine brK_in (fun _=>?_) (fun _=>?_)|refine And.intro (by first|exact rfl|exact (by first|exact and1 (by assumption)|exact leaders_len (and2 (by assumption)))|exact ⟨_,rfl,rfl⟩|exact ⟨rfl,rfl,rfl⟩|exact of_decide_eq_true rfl|exact trivial|assumption|omega|(show (_ ≤ _ ∧ _ ≤ _); omega)|(simp; omega)|exact ⟨by first|omega|(simp; omega),_,rfl,rfl⟩) ?_|refine Quo.l (And.intro (by first|exact rfl|exact (by first|exact and1 (by assumption)|exact leaders_len (and2 (by assumption)))|assumption|omega|(simp; omega)) ?_)|refine Quo.r (And.intro (by omega) ?_)|refine Both.mk ?_ ?_|refine Exists.intro _ (And.intro rfl ?_)|refine rep_in ?_|refine opt_use (by assumption) ?_|refine vrow_use (by assumption) ?_|refine vrow_in (fun _ _=>?_)|refine fun _=>?_))|exact rfl)
  · rename_i e
    have e : okO c g L = false := e
    rw [slotsP, okO_no e] at h
    exact h
  rename_i e
  have e : okO c g L = true := e
  have hL15 := leaders_len (and2 e)
  have hW := out_len15 (c := c) (g := g) hL15
  have hvl := ordV_len (g := g) (L := L) (W := outV c g L)
  have hvb := ordV_bound (g := g) (L := L) (W := outV c g L)
  have hol2 : (outV c g L).length * g.length ≤ 15 * g.length := Nat.mul_le_mul_right _ hW
  rw [slotsP, slotsO_idx e] at h
  generalize (ordV g L (outV c g L)).map (·.1) = O at h hvl hvb ⊢
  have hOm : (natI O).length = O.length := by simp
  refine loop_in (ι := Nat) (fun i => mkS 48 [(1, .sl 4 (g.map VxD.row)), (7, .own 0), (8, .own 1), (9, I i)] [.arr 2 ((((O.take i).map (gAt g)).map sP).map pR), .iarr (natI O)] Fs) (fun i => i ≤ O.length) (fun i => O.length - i) 0 [0, 1] (Nat.zero_le _) ?_ ?_
  · repeat' (first|((conv=>whnf); (first|refine brK_dec (fun _=>?_) (fun _=>?_)|refine brK_ndec (fun _=>?_) (fun _=>?_)|refine brK_not (fun _=>?_) (fun _=>?_)|refine brK_in (fun _=>?_) (fun _=>?_)|refine And.intro (by first|exact rfl|exact ⟨_,rfl,rfl⟩|exact ⟨rfl,rfl,rfl⟩|exact of_decide_eq_true rfl|exact trivial|assumption|omega|(show (_ ≤ _ ∧ _ ≤ _); omega)|(simp; omega)|exact ⟨by first|omega|(simp; omega),_,rfl,rfl⟩) ?_|refine Quo.l (And.intro (by first|exact rfl|assumption|omega|(simp; omega)) ?_)|refine Quo.r (And.intro (by omega) ?_)|refine Both.mk ?_ ?_|refine Exists.intro _ (And.intro rfl ?_)|refine rep_in ?_|refine opt_use (by assumption) ?_|refine vrow_use (by assumption) ?_|refine vrow_in (fun _ _=>?_)|refine fun _=>?_))|exact rfl)
  intro i hi
  dsimp only at hi ⊢
  rcases Nat.lt_or_ge i O.length with hil | hil
  · obtain ⟨k, hk⟩ : ∃ k, O[i]? = some k := ⟨_, List.getElem?_eq_getElem hil⟩
    have hkg := hvb k (List.mem_of_getElem? hk)
    have hki := natI_get hk
    obtain ⟨v, hv⟩ : ∃ v, g[((k : Nat) : Int).toNat]? = some v := ⟨_, List.getElem?_eq_getElem hkg⟩
    have hgv : gAt g k = v := gAt_of hv
    have htl : ((((O.take i).map (gAt g)).map sP).map pR).length = i := by simp; omega
    repeat' (first|((conv=>whnf); (first|refine draw_plan (id := 8) [0] [] (.take 0 (.take 1 (.take 2 (.take 3 (.take 4 (.take 5 (.take 6 (.take 7 (.take 8 (.take 9 (.take 10 (.take 11 (.take 12 (.take 13 (.take 14 (.take 15 (.take 16 (.take 17 (.run 18 (.run 19 (.take 20 .done))))))))))))))))))))) (by kernel_rfl) (by kernel_rfl) ?_|refine brK_dec (fun _=>?_) (fun _=>?_)|refine brK_ndec (fun _=>?_) (fun _=>?_)|refine brK_not (fun _=>?_) (fun _=>?_)|refine brK_in (fun _=>?_) (fun _=>?_)|refine And.intro (by first|exact rfl|exact (by first|(show (_ + 1) * 16 ≤ 140737488355328; omega)|(show _ + 1 ≤ 9223372036854775807; omega))|exact ⟨_,rfl,rfl⟩|exact ⟨rfl,rfl,rfl⟩|exact of_decide_eq_true rfl|exact trivial|assumption|omega|(show (_ ≤ _ ∧ _ ≤ _); omega)|(simp; omega)|exact ⟨by first|omega|(simp; omega),_,rfl,rfl⟩) ?_|refine Quo.l (And.intro (by first|exact rfl|exact (by first|(show (_ + 1) * 16 ≤ 140737488355328; omega)|(show _ + 1 ≤ 9223372036854775807; omega))|assumption|omega|(simp; omega)) ?_)|refine Quo.r (And.intro (by omega) ?_)|refine Both.mk ?_ ?_|refine Exists.intro _ (And.intro rfl ?_)|refine rep_in ?_|refine opt_use (by assumption) ?_|refine vrow_use (by assumption) ?_|refine vrow_in (fun _ _=>?_)|refine fun _=>?_))|exact rfl)
    · have e1 : (((O.take (i + 1)).map (gAt g)).map sP).map pR = ((((O.take i).map (gAt g)).map sP).map pR).take ((((O.take i).map (gAt g)).map sP).map pR).length ++ [pR (sP v)] := by
        rw [List.take_add_one, hk, List.take_length, ← hgv]
        simp
      refine ⟨i + 1, [0, 1], by omega, by omega, ?_⟩
      repeat' (first|((conv=>whnf); (first|refine brK_dec (fun _=>?_) (fun _=>?_)|refine brK_ndec (fun _=>?_) (fun _=>?_)|refine brK_not (fun _=>?_) (fun _=>?_)|refine brK_in (fun _=>?_) (fun _=>?_)|refine And.intro (by first|exact rfl|exact e1|exact ⟨_,rfl,rfl⟩|exact ⟨rfl,rfl,rfl⟩|exact of_decide_eq_true rfl|exact trivial|assumption|omega|(show (_ ≤ _ ∧ _ ≤ _); omega)|(simp; omega)|exact ⟨by first|omega|(simp; omega),_,rfl,rfl⟩) ?_|refine Quo.l (And.intro (by first|exact rfl|exact e1|assumption|omega|(simp; omega)) ?_)|refine Quo.r (And.intro (by omega) ?_)|refine Both.mk ?_ ?_|refine Exists.intro _ (And.intro rfl ?_)|refine rep_in ?_|refine opt_use (by assumption) ?_|refine vrow_use (by assumption) ?_|refine vrow_in (fun _ _=>?_)|refine fun _=>?_))|exact rfl)
    · omega
  · obtain rfl : i = O.length := by omega
    repeat' (first|((conv=>whnf); (first|refine brK_dec (fun _=>?_) (fun _=>?_)|refine brK_ndec (fun _=>?_) (fun _=>?_)|refine brK_not (fun _=>?_) (fun _=>?_)|refine brK_in (fun _=>?_) (fun _=>?_)|refine And.intro (by first|exact rfl|exact ⟨_,rfl,rfl⟩|exact ⟨rfl,rfl,rfl⟩|exact of_decide_eq_true rfl|exact trivial|assumption|omega|(show (_ ≤ _ ∧ _ ≤ _); omega)|(simp; omega)|exact ⟨by first|omega|(simp; omega),_,rfl,rfl⟩) ?_|refine Quo.l (And.intro (by first|exact rfl|assumption|omega|(simp; omega)) ?_)|refine Quo.r (And.intro (by omega) ?_)|refine Both.mk ?_ ?_|refine Exists.intro _ (And.intro rfl ?_)|refine rep_in ?_|refine opt_use (by assumption) ?_|refine vrow_use (by assumption) ?_|refine vrow_in (fun _ _=>?_)|refine fun _=>?_))|exact rfl)
    · omega
    rw [List.take_length]
    exact ⟨⟨rfl, by simp [roFreeB, pR, roFreeC], rfl⟩, h⟩
noncomputable def c_spec_OrderDigests : Con := ⟨1, 0, false, fun xs hs _ K => match xs with
  | [.ints c, .sl 4 rows, .ints L] => hs = [] ∧ ∃ g : List VxD, rows = g.map VxD.row ∧ c.length < 2000000 ∧ g.length < 2000000 ∧ (∀ v ∈ g, v.p.length < 2000000) ∧ L.length < 2000000 ∧ K (.own 0) [.iarr (digO c g L)] []
  | _ => False⟩
theorem k_spec_OrderDigests : Keeps' Tryz.prog 16 c_spec_OrderDigests := by
  refine keeps_of_vc mix TyT_ok (cok_cons k_spec_l21Ok Tryz.func49 rfl rfl (cok_cons k_spec_l22Order Tryz.func50 rfl rfl cok_nil)) Tryz.func16 rfl rfl rfl ?_
  intro aargs hs Fs K h
  simp only [c_spec_OrderDigests] at h
  split at h
  case h_2 => exact h.elim
  rename_i c rows L
  obtain ⟨rfl, g, rfl, hc, hg, hp, hL, h⟩ := h
  have hlen : (g.map VxD.row).length = g.length := by simp
  repeat' (first|((conv=>whnf); (first|refine brK_dec (fun _=>?_) (fun _=>?_)|refine brK_ndec (fun _=>?_) (fun _=>?_)|refine brK_not (fun _=>?_) (fun _=>?_)|refine brK_in (fun _=>?_) (fun _=>?_)|refine And.intro (by first|exact rfl|exact (by first|exact and1 (by assumption)|exact leaders_len (and2 (by assumption)))|exact ⟨_,rfl,rfl⟩|exact ⟨rfl,rfl,rfl⟩|exact of_decide_eq_true rfl|exact trivial|assumption|omega|(show (_ ≤ _ ∧ _ ≤ _); omega)|(simp; omega)|exact ⟨by first|omega|(simp; omega),_,rfl,rfl⟩) ?_|refine Quo.l (And.intro (by first|exact rfl|exact (by first|exact and1 (by assumption)|exact leaders_len (and2 (by assumption)))|assumption|omega|(simp; omega)) ?_)|refine Quo.r (And.intro (by omega) ?_)|refine Both.mk ?_ ?_|refine Exists.intro _ (And.intro rfl ?_)|refine rep_in ?_|refine opt_use (by assumption) ?_|refine vrow_use (by assumption) ?_|refine vrow_in (fun _ _=>?_)|refine fun _=>?_))|exact rfl)
  · rename_i e
    have e : okO c g L = false := e
    rw [digO, okO_no e] at h
    exact h
  rename_i e
  have e : okO c g L = true := e
  have hL15 := leaders_len (and2 e)
  have hW := out_len15 (c := c) (g := g) hL15
  have hvl := ordV_len (g := g) (L := L) (W := outV c g L)
  have hvb := ordV_bound (g := g) (L := L) (W := outV c g L)
  have hol2 : (outV c g L).length * g.length ≤ 15 * g.length := Nat.mul_le_mul_right _ hW
  rw [digO, slotsO_idx e] at h
  generalize (ordV g L (outV c g L)).map (·.1) = O at h hvl hvb ⊢
  have hOm : (natI O).length = O.length := by simp
  refine loop_in (ι := Nat) (fun i => mkS 39 [(1, .sl 4 (g.map VxD.row)), (7, .own 0), (8, .own 1), (9, I i)] [.iarr (((O.take i).map (gAt g)).map fun v => v.d), .iarr (natI O)] Fs) (fun i => i ≤ O.length) (fun i => O.length - i) 0 [0, 1] (Nat.zero_le _) ?_ ?_
  · repeat' (first|((conv=>whnf); (first|refine brK_dec (fun _=>?_) (fun _=>?_)|refine brK_ndec (fun _=>?_) (fun _=>?_)|refine brK_not (fun _=>?_) (fun _=>?_)|refine brK_in (fun _=>?_) (fun _=>?_)|refine And.intro (by first|exact rfl|exact ⟨_,rfl,rfl⟩|exact ⟨rfl,rfl,rfl⟩|exact of_decide_eq_true rfl|exact trivial|assumption|omega|(show (_ ≤ _ ∧ _ ≤ _); omega)|(simp; omega)|exact ⟨by first|omega|(simp; omega),_,rfl,rfl⟩) ?_|refine Quo.l (And.intro (by first|exact rfl|assumption|omega|(simp; omega)) ?_)|refine Quo.r (And.intro (by omega) ?_)|refine Both.mk ?_ ?_|refine Exists.intro _ (And.intro rfl ?_)|refine rep_in ?_|refine opt_use (by assumption) ?_|refine vrow_use (by assumption) ?_|refine vrow_in (fun _ _=>?_)|refine fun _=>?_))|exact rfl)
  intro i hi
  dsimp only at hi ⊢
  rcases Nat.lt_or_ge i O.length with hil | hil
  · obtain ⟨k, hk⟩ : ∃ k, O[i]? = some k := ⟨_, List.getElem?_eq_getElem hil⟩
    have hkg := hvb k (List.mem_of_getElem? hk)
    have hki := natI_get hk
    obtain ⟨v, hv⟩ : ∃ v, g[((k : Nat) : Int).toNat]? = some v := ⟨_, List.getElem?_eq_getElem hkg⟩
    have hgv : gAt g k = v := gAt_of hv
    have htl : (((O.take i).map (gAt g)).map fun v => v.d).length = i := by simp; omega
    repeat' (first|((conv=>whnf); (first|refine brK_dec (fun _=>?_) (fun _=>?_)|refine brK_ndec (fun _=>?_) (fun _=>?_)|refine brK_not (fun _=>?_) (fun _=>?_)|refine brK_in (fun _=>?_) (fun _=>?_)|refine And.intro (by first|exact rfl|exact (by first|(show (_ + 1) * 8 ≤ 140737488355328; omega)|(show _ + 1 ≤ 9223372036854775807; omega))|exact ⟨_,rfl,rfl⟩|exact ⟨rfl,rfl,rfl⟩|exact of_decide_eq_true rfl|exact trivial|assumption|omega|(show (_ ≤ _ ∧ _ ≤ _); omega)|(simp; omega)|exact ⟨by first|omega|(simp; omega),_,rfl,rfl⟩) ?_|refine Quo.l (And.intro (by first|exact rfl|exact (by first|(show (_ + 1) * 8 ≤ 140737488355328; omega)|(show _ + 1 ≤ 9223372036854775807; omega))|assumption|omega|(simp; omega)) ?_)|refine Quo.r (And.intro (by omega) ?_)|refine Both.mk ?_ ?_|refine Exists.intro _ (And.intro rfl ?_)|refine rep_in ?_|refine opt_use (by assumption) ?_|refine vrow_use (by assumption) ?_|refine vrow_in (fun _ _=>?_)|refine fun _=>?_))|exact rfl)
    · have e1 : (((O.take (i + 1)).map (gAt g)).map fun v => v.d) = (((O.take i).map (gAt g)).map fun v => v.d).take (((O.take i).map (gAt g)).map fun v => v.d).length ++ [v.d] := by
        rw [List.take_add_one, hk, List.take_length, ← hgv]
        simp
      refine ⟨i + 1, [0, 1], by omega, by omega, ?_⟩
      repeat' (first|((conv=>whnf); (first|refine brK_dec (fun _=>?_) (fun _=>?_)|refine brK_ndec (fun _=>?_) (fun _=>?_)|refine brK_not (fun _=>?_) (fun _=>?_)|refine brK_in (fun _=>?_) (fun _=>?_)|refine And.intro (by first|exact rfl|exact e1|exact ⟨_,rfl,rfl⟩|exact ⟨rfl,rfl,rfl⟩|exact of_decide_eq_true rfl|exact trivial|assumption|omega|(show (_ ≤ _ ∧ _ ≤ _); omega)|(simp; omega)|exact ⟨by first|omega|(simp; omega),_,rfl,rfl⟩) ?_|refine Quo.l (And.intro (by first|exact rfl|exact e1|assumption|omega|(simp; omega)) ?_)|refine Quo.r (And.intro (by omega) ?_)|refine Both.mk ?_ ?_|refine Exists.intro _ (And.intro rfl ?_)|refine rep_in ?_|refine opt_use (by assumption) ?_|refine vrow_use (by assumption) ?_|refine vrow_in (fun _ _=>?_)|refine fun _=>?_))|exact rfl)
    · omega
  · obtain rfl : i = O.length := by omega
    repeat' (first|((conv=>whnf); (first|refine brK_dec (fun _=>?_) (fun _=>?_)|refine brK_ndec (fun _=>?_) (fun _=>?_)|refine brK_not (fun _=>?_) (fun _=>?_)|refine brK_in (fun _=>?_) (fun _=>?_)|refine And.intro (by first|exact rfl|exact ⟨_,rfl,rfl⟩|exact ⟨rfl,rfl,rfl⟩|exact of_decide_eq_true rfl|exact trivial|assumption|omega|(show (_ ≤ _ ∧ _ ≤ _); omega)|(simp; omega)|exact ⟨by first|omega|(simp; omega),_,rfl,rfl⟩) ?_|refine Quo.l (And.intro (by first|exact rfl|assumption|omega|(simp; omega)) ?_)|refine Quo.r (And.intro (by omega) ?_)|refine Both.mk ?_ ?_|refine Exists.intro _ (And.intro rfl ?_)|refine rep_in ?_|refine opt_use (by assumption) ?_|refine vrow_use (by assumption) ?_|refine vrow_in (fun _ _=>?_)|refine fun _=>?_))|exact rfl)
    · omega
    rw [List.take_length]
    exact h
noncomputable def c_spec_OrderWave : Con := ⟨0, 0, false, fun xs hs _ K => match xs with
  | [.ints c, .sl 4 rows, .ints L, .agg [.val (.int .i64 r), .val (.int .i64 a)]] => hs = [] ∧ ∃ g : List VxD, rows = g.map VxD.row ∧ c.length < 2000000 ∧ g.length < 2000000 ∧ (∀ v ∈ g, v.p.length < 2000000) ∧ L.length < 2000000 ∧ K (I (waveO c g L r a)) [] []
  | _ => False⟩
theorem k_spec_OrderWave : Keeps' Tryz.prog 39 c_spec_OrderWave := by
  refine keeps_of_vc mix TyT_ok (cok_cons k_spec_l21Ok Tryz.func49 rfl rfl (cok_cons k_spec_l11Find Tryz.func67 rfl rfl (cok_cons k_spec_l22Waves Tryz.func68 rfl rfl cok_nil))) Tryz.func39 rfl rfl rfl ?_
  intro aargs hs Fs K h
  simp only [c_spec_OrderWave] at h
  split at h
  case h_2 => exact h.elim
  rename_i c rows L r a
  obtain ⟨rfl, g, rfl, hc, hg, hp, hL, h⟩ := h
  have hlen : (g.map VxD.row).length = g.length := by simp
  rcases fnd_cases g r a with ⟨k, h1, h2, h3⟩ | ⟨h1, h2⟩
  · rw [waveO, h1] at h
    repeat' (first|((conv=>whnf); (first|refine draw_plan (id := 3) [] [] (.take 0 (.take 1 (.take 2 (.take 4 (.take 5 (.take 6 (.take 7 (.take 8 (.run 3 (.run 9 (.take 10 (.run 11 (.take 12 .done))))))))))))) (by kernel_rfl) (by kernel_rfl) ?_|refine brK_dec (fun _=>?_) (fun _=>?_)|refine brK_ndec (fun _=>?_) (fun _=>?_)|refine brK_not (fun _=>?_) (fun _=>?_)|refine brK_in (fun _=>?_) (fun _=>?_)|refine And.intro (by first|exact rfl|exact (by first|exact and1 (by assumption)|exact leaders_len (and2 (by assumption)))|exact ⟨_,rfl,rfl⟩|exact ⟨rfl,rfl,rfl⟩|exact of_decide_eq_true rfl|exact trivial|assumption|omega|(show (_ ≤ _ ∧ _ ≤ _); omega)|(simp; omega)|exact ⟨by first|omega|(simp; omega),_,rfl,rfl⟩) ?_|refine Quo.l (And.intro (by first|exact rfl|exact (by first|exact and1 (by assumption)|exact leaders_len (and2 (by assumption)))|assumption|omega|(simp; omega)) ?_)|refine Quo.r (And.intro (by omega) ?_)|refine Both.mk ?_ ?_|refine Exists.intro _ (And.intro rfl ?_)|refine rep_in ?_|refine opt_use (by assumption) ?_|refine vrow_use (by assumption) ?_|refine vrow_in (fun _ _=>?_)|refine fun _=>?_))|exact rfl)
    · rename_i e
      rw [okO, e] at h
      exact h
    · omega
    · rename_i e hn
      have e : okO c g L = true := e
      rw [if_pos e] at h
      have hx : (wvI g L (outV c g L))[((k : Nat) : Int).toNat]? = some (wvV g L (outV c g L) k : Int) := wvI_get h3
      have hwl := wvI_len (g := g) (L := L) (W := outV c g L)
      rw [h2]
      repeat' (first|((conv=>whnf); (first|refine brK_dec (fun _=>?_) (fun _=>?_)|refine brK_ndec (fun _=>?_) (fun _=>?_)|refine brK_not (fun _=>?_) (fun _=>?_)|refine brK_in (fun _=>?_) (fun _=>?_)|refine And.intro (by first|exact rfl|exact ⟨_,rfl,rfl⟩|exact ⟨rfl,rfl,rfl⟩|exact of_decide_eq_true rfl|exact trivial|assumption|omega|(show (_ ≤ _ ∧ _ ≤ _); omega)|(simp; omega)|exact ⟨by first|omega|(simp; omega),_,rfl,rfl⟩) ?_|refine Quo.l (And.intro (by first|exact rfl|assumption|omega|(simp; omega)) ?_)|refine Quo.r (And.intro (by omega) ?_)|refine Both.mk ?_ ?_|refine Exists.intro _ (And.intro rfl ?_)|refine rep_in ?_|refine opt_use (by assumption) ?_|refine vrow_use (by assumption) ?_|refine vrow_in (fun _ _=>?_)|refine fun _=>?_))|exact rfl)
      exact h
  · rw [waveO, h1] at h
    have h : K (I (-1)) [] [] := by
      have e2 : (if okO c g L = true then (-1 : Int) else -1) = -1 := by split <;> rfl
      rw [← e2]
      exact h
    repeat' (first|((conv=>whnf); (first|refine draw_plan (id := 3) [] [] (.take 0 (.take 1 (.take 2 (.take 4 (.take 5 (.take 6 (.take 7 (.take 8 (.run 3 (.run 9 (.take 10 (.run 11 (.take 12 .done))))))))))))) (by kernel_rfl) (by kernel_rfl) ?_|refine brK_dec (fun _=>?_) (fun _=>?_)|refine brK_ndec (fun _=>?_) (fun _=>?_)|refine brK_not (fun _=>?_) (fun _=>?_)|refine brK_in (fun _=>?_) (fun _=>?_)|refine And.intro (by first|exact rfl|exact (by first|exact and1 (by assumption)|exact leaders_len (and2 (by assumption)))|exact ⟨_,rfl,rfl⟩|exact ⟨rfl,rfl,rfl⟩|exact of_decide_eq_true rfl|exact trivial|assumption|omega|(show (_ ≤ _ ∧ _ ≤ _); omega)|(simp; omega)|exact ⟨by first|omega|(simp; omega),_,rfl,rfl⟩) ?_|refine Quo.l (And.intro (by first|exact rfl|exact (by first|exact and1 (by assumption)|exact leaders_len (and2 (by assumption)))|assumption|omega|(simp; omega)) ?_)|refine Quo.r (And.intro (by omega) ?_)|refine Both.mk ?_ ?_|refine Exists.intro _ (And.intro rfl ?_)|refine rep_in ?_|refine opt_use (by assumption) ?_|refine vrow_use (by assumption) ?_|refine vrow_in (fun _ _=>?_)|refine fun _=>?_))|exact rfl)
    · exact h
    · exact h
    · omega
end Go.Proofs.YtkabnbjlglippaaGreatDoor
