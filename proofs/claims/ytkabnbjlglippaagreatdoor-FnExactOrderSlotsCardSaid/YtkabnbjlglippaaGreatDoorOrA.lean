/-
The order, by the program.
No conditions.
-/
import Derived.Test.YtkabnbjlglippaaGreatDoorOrP
namespace Go.Proofs.YtkabnbjlglippaaGreatDoor
open Go Go.Vc
set_option maxHeartbeats 4000000
set_option maxRecDepth 10000
noncomputable def c_waves_order : Con := ⟨1, 0, true, fun xs hs Fs K => match xs with
  | [.agg [.ro (.ints c :: .sl 1 rows :: pl), .ints L]] => hs = [] ∧ ∃ b g p0 p1 p2, rows = rpRows b (List.range g.length) ∧ pl = plcs b g ∧ gV c g = true ∧ g.length < 2000000 ∧ (∀ v ∈ g, v.p.length < 2000000) ∧ hasG Fs b g ∧ hasErr Fs p0 p1 p2 ∧ L.length ≤ 15 ∧
      K (.own 0) [.arr 5 (ordR g L (outV c g L) (outV c g L))] []
  | _ => False⟩
theorem natI_at {l : List Nat} {n : Nat} {x : Int} (h : (natI l)[n]? = some x) : ∃ w : Nat, l[n]? = some w ∧ x = w := by
  rw [List.getElem?_map] at h
  obtain ⟨w, hw, e⟩ := Option.map_eq_some_iff.1 h
  exact ⟨w, hw, e.symm⟩
theorem k_impl_waves_order : Keeps' Tryz.prog 53 c_waves_order := by
  refine keeps_of_vc mix TyT_ok (cok_cons k_impl_waves_committed Tryz.func59 rfl rfl (cok_cons k_impl_waves_leader Tryz.func79 rfl rfl (cok_cons k_impl_graph_past Tryz.func71 rfl rfl (cok_cons k_container_heap_Push Tryz.func80 rfl rfl (cok_cons k_impl_queue_drain Tryz.func81 rfl rfl cok_nil))))) Tryz.func53 rfl rfl rfl ?_
  intro aargs hs Fs K h
  simp only [c_waves_order] at h
  split at h
  case h_2 => exact h.elim
  rename_i c rows pl L
  obtain ⟨rfl, b, g, p0, p1, p2, rfl, rfl, hv, hg, hp, hG, hE, hL, h⟩ := h
  have hG2 : hasG (Fs ++ ([] : List Fam)) b g := hasG_app hG
  have hE2 : hasErr (Fs ++ ([] : List Fam)) p0 p1 p2 := err_app hE
  have hrl : (rpRows b (List.range g.length)).length = g.length := by simp
  have hg217 := gV_len hv
  repeat' (first|((conv=>whnf); (first|refine Exists.intro b (Exists.intro g (Exists.intro p0 (Exists.intro p1 (Exists.intro p2 (And.intro rfl (And.intro rfl (And.intro hv (And.intro hg (And.intro hp (And.intro hG2 (And.intro hE2 (And.intro hL ?_))))))))))))|refine brK_dec (fun _=>?_) (fun _=>?_)|refine brK_ndec (fun _=>?_) (fun _=>?_)|refine brK_not (fun _=>?_) (fun _=>?_)|refine brK_in (fun _=>?_) (fun _=>?_)|refine And.intro (by first|exact rfl|exact (by first|(simp; omega)|omega)|exact ⟨_,rfl,rfl⟩|exact ⟨rfl,rfl,rfl⟩|exact of_decide_eq_true rfl|exact trivial|assumption|omega|(show (_ ≤ _ ∧ _ ≤ _); omega)|(simp; omega)|exact ⟨by first|omega|(simp; omega),_,rfl,rfl⟩) ?_|refine Quo.l (And.intro (by first|exact rfl|exact (by first|(simp; omega)|omega)|assumption|omega|(simp; omega)) ?_)|refine Quo.r (And.intro (by omega) ?_)|refine Both.mk ?_ ?_|refine Exists.intro _ (And.intro rfl ?_)|refine fun _=>?_))|exact rfl)
  have hasc := out_asc (c := c) (g := g) (L := L)
  have hmem : ∀ w ∈ outV c g L, 0 < w ∧ w ≤ L.length ∧ hasV g L w = true := fun w hw => out_mem hw
  generalize outV c g L = W at h hasc hmem ⊢
  have hWl : (natI W).length = W.length := by simp
  have hW15 : W.length ≤ 15 := by
    have := asc_len W 16 1 hasc fun y hy => by
      have := hmem y hy
      omega
    omega
  refine loop_in (ι := Nat × List Bool) (fun t => mkS 90 [(1, .ptr 0 0), (3, .own 1), (4, .own 2), (22, .own 3), (23, I (natI W).length), (24, I t.1)]
      [.cells [.ro (.ints c :: .sl 1 (rpRows b (List.range g.length)) :: plcs b g), .ints L], .arr 5 (ordR g L W (W.take t.1)), .arr 1 (boolRows t.2), .iarr (natI W)] Fs)
    (fun t => t.1 ≤ W.length ∧ DnO g L W t.1 t.2) (fun t => W.length - t.1) (0, List.replicate g.length false) [0, 1, 2, 3] ⟨Nat.zero_le _, dno_start⟩ ?_ ?_
  · repeat' (first|((conv=>whnf); (first|refine brK_dec (fun _=>?_) (fun _=>?_)|refine brK_ndec (fun _=>?_) (fun _=>?_)|refine brK_not (fun _=>?_) (fun _=>?_)|refine brK_in (fun _=>?_) (fun _=>?_)|refine And.intro (by first|exact rfl|exact (by first|(simp [boolRows]; done)|rfl)|exact ⟨_,rfl,rfl⟩|exact ⟨rfl,rfl,rfl⟩|exact of_decide_eq_true rfl|exact trivial|assumption|omega|(show (_ ≤ _ ∧ _ ≤ _); omega)|(simp; omega)|exact ⟨by first|omega|(simp; omega),_,rfl,rfl⟩) ?_|refine Quo.l (And.intro (by first|exact rfl|exact (by first|(simp [boolRows]; done)|rfl)|assumption|omega|(simp; omega)) ?_)|refine Quo.r (And.intro (by omega) ?_)|refine Both.mk ?_ ?_|refine Exists.intro _ (And.intro rfl ?_)|refine fun _=>?_))|exact rfl)
  rintro ⟨n, d⟩ ⟨hn, hd⟩
  dsimp only at hn hd ⊢
  rcases Nat.lt_or_ge n W.length with hnl | hnl
  rotate_left
  · obtain rfl : n = W.length := by omega
    rw [List.take_length]
    repeat' (first|((conv=>whnf); (first|refine brK_dec (fun _=>?_) (fun _=>?_)|refine brK_ndec (fun _=>?_) (fun _=>?_)|refine brK_not (fun _=>?_) (fun _=>?_)|refine brK_in (fun _=>?_) (fun _=>?_)|refine And.intro (by first|exact rfl|exact ⟨_,rfl,rfl⟩|exact ⟨rfl,rfl,rfl⟩|exact of_decide_eq_true rfl|exact trivial|assumption|omega|(show (_ ≤ _ ∧ _ ≤ _); omega)|(simp; omega)|exact ⟨by first|omega|(simp; omega),_,rfl,rfl⟩) ?_|refine Quo.l (And.intro (by first|exact rfl|assumption|omega|(simp; omega)) ?_)|refine Quo.r (And.intro (by omega) ?_)|refine Both.mk ?_ ?_|refine Exists.intro _ (And.intro rfl ?_)|refine fun _=>?_))|exact rfl)
    · omega
    · exact h
  obtain ⟨w, hw⟩ : ∃ w, W[n]? = some w := ⟨_, List.getElem?_eq_getElem hnl⟩
  have hnw : (natI W)[((n : Nat) : Int).toNat]? = some (w : Int) := by
    show (W.map _)[n]? = _
    rw [List.getElem?_map, hw]
    rfl
  obtain ⟨w0, w1, w2⟩ := hmem w (List.mem_of_getElem? hw)
  obtain ⟨i0, hi0⟩ := has_lead w2
  obtain ⟨vi, hvi, hvr, hva, _⟩ := lead_at hi0
  have hil0 : i0 < g.length := (List.getElem?_eq_some_iff.1 hvi).1
  repeat' (first|((conv=>whnf); (first|refine Exists.intro b (Exists.intro g (Exists.intro p0 (Exists.intro p1 (Exists.intro p2 (And.intro rfl (And.intro hv (And.intro hE2 (And.intro hL (Exists.intro w (And.intro rfl (And.intro w0 (And.intro w1 ?_))))))))))))|refine brK_dec (fun _=>?_) (fun _=>?_)|refine brK_ndec (fun _=>?_) (fun _=>?_)|refine brK_not (fun _=>?_) (fun _=>?_)|refine brK_in (fun _=>?_) (fun _=>?_)|refine And.intro (by first|exact rfl|exact ⟨_,rfl,rfl⟩|exact ⟨rfl,rfl,rfl⟩|exact of_decide_eq_true rfl|exact trivial|assumption|omega|(show (_ ≤ _ ∧ _ ≤ _); omega)|(simp; omega)|exact ⟨by first|omega|(simp; omega),_,rfl,rfl⟩) ?_|refine Quo.l (And.intro (by first|exact rfl|assumption|omega|(simp; omega)) ?_)|refine Quo.r (And.intro (by omega) ?_)|refine Both.mk ?_ ?_|refine Exists.intro _ (And.intro rfl ?_)|refine opt_use (by assumption) ?_|refine fun _=>?_))|exact rfl)
  rotate_right
  · omega
  · rename_i hld
    rw [hld] at hi0
    cases hi0
  rename_i i1 hi1
  rw [hi0] at hi1
  cases hi1
  repeat' (first|((conv=>whnf); (first|refine Exists.intro b (Exists.intro g (Exists.intro i0 (And.intro rfl (And.intro rfl (And.intro hG2 (And.intro hv (And.intro hil0 (And.intro hg (And.intro hp ?_)))))))))|refine brK_dec (fun _=>?_) (fun _=>?_)|refine brK_ndec (fun _=>?_) (fun _=>?_)|refine brK_not (fun _=>?_) (fun _=>?_)|refine brK_in (fun _=>?_) (fun _=>?_)|refine And.intro (by first|exact rfl|exact ⟨_,rfl,rfl⟩|exact ⟨rfl,rfl,rfl⟩|exact of_decide_eq_true rfl|exact trivial|assumption|omega|(show (_ ≤ _ ∧ _ ≤ _); omega)|(simp; omega)|exact ⟨by first|omega|(simp; omega),_,rfl,rfl⟩) ?_|refine Quo.l (And.intro (by first|exact rfl|assumption|omega|(simp; omega)) ?_)|refine Quo.r (And.intro (by omega) ?_)|refine Both.mk ?_ ?_|refine Exists.intro _ (And.intro rfl ?_)|refine opt_use (by assumption) ?_|refine fun _=>?_))|exact rfl)
  have hPl : (natI (idxT (pastV g i0))).length = (idxT (pastV g i0)).length := by simp
  have hPg : (idxT (pastV g i0)).length ≤ g.length := by rw [← hPl]; exact idxT_len
  have hPlt := idxT_lt (g := g) (s := i0)
  have hPm : ∀ j ∈ idxT (pastV g i0), j < g.length := fun j hj => (idxT_iff.1 hj).1
  have hend := fun (k : Nat) d' q hk hI => dni_end (g := g) (L := L) (d := d') (q := q) hasc hw w0 hi0 (k := k) hk hI
  generalize idxT (pastV g i0) = P at hPl hPg hPlt hPm hend ⊢
  refine loop_in (ι := Nat × List Bool × List Nat) (fun t => mkS 90 [(1, .ptr 0 0), (3, .own 1), (4, .own 2), (6, I w), (7, .rp (b + i0) 0 0), (9, .ptr 5 0), (22, .own 3), (23, I (natI W).length), (24, I n), (41, .own 6), (42, I (natI P).length), (43, I t.1)]
      [.cells [.ro (.ints c :: .sl 1 (rpRows b (List.range g.length)) :: plcs b g), .ints L], .arr 5 (ordR g L W (W.take n)), .arr 1 (boolRows t.2.1), .iarr (natI W), .arr 4 ((t.2.2.map (gAt g)).map VxD.row), .cells [.own 4], .iarr (natI P)] Fs)
    (fun t => t.1 ≤ P.length ∧ DnI g L W n w P t.1 t.2.1 t.2.2) (fun t => P.length - t.1) (0, d, []) [0, 1, 2, 3, 4, 5, 6] ⟨Nat.zero_le _, dni_start hd⟩ ?_ ?_
  · repeat' (first|((conv=>whnf); (first|refine brK_dec (fun _=>?_) (fun _=>?_)|refine brK_ndec (fun _=>?_) (fun _=>?_)|refine brK_not (fun _=>?_) (fun _=>?_)|refine brK_in (fun _=>?_) (fun _=>?_)|refine And.intro (by first|exact rfl|exact ⟨_,rfl,rfl⟩|exact ⟨rfl,rfl,rfl⟩|exact of_decide_eq_true rfl|exact trivial|assumption|omega|(show (_ ≤ _ ∧ _ ≤ _); omega)|(simp; omega)|exact ⟨by first|omega|(simp; omega),_,rfl,rfl⟩) ?_|refine Quo.l (And.intro (by first|exact rfl|assumption|omega|(simp; omega)) ?_)|refine Quo.r (And.intro (by omega) ?_)|refine Both.mk ?_ ?_|refine Exists.intro _ (And.intro rfl ?_)|refine opt_use (by assumption) ?_|refine fun _=>?_))|exact rfl)
  rintro ⟨k, d1, q⟩ ⟨hk, hI⟩
  dsimp only at hk hI ⊢
  have hbl : (boolRows d1).length = g.length := by simp [hI.len]
  have hqg : ∀ x ∈ q, x < g.length := fun x hx => hPm x (List.mem_of_mem_take ((hI.new x).1 hx).1)
  have hql : q.length ≤ g.length := by
    have := asc_len q g.length 0 hI.asc fun y hy => ⟨Nat.zero_le _, hqg y hy⟩
    omega
  rcases Nat.lt_or_ge k P.length with hkl | hkl
  · obtain ⟨j, hj⟩ : ∃ j, P[k]? = some j := ⟨_, List.getElem?_eq_getElem hkl⟩
    have hjg := hPm j (List.mem_of_getElem? hj)
    have hjp : (natI P)[((k : Nat) : Int).toNat]? = some (j : Int) := by
      show (P.map _)[k]? = _
      rw [List.getElem?_map, hj]
      rfl
    obtain ⟨v, hv1⟩ : ∃ v, g[j]? = some v := ⟨_, List.getElem?_eq_getElem hjg⟩
    have hgv := gAt_of hv1
    have hrj : (List.range g.length)[((j : Nat) : Int).toNat]? = some j := by
      show (List.range g.length)[j]? = some j
      rw [List.getElem?_range hjg]
    obtain ⟨x, hx⟩ : ∃ x, d1[((j : Nat) : Int).toNat]? = some x := ⟨_, List.getElem?_eq_getElem (by show j < _; rw [hI.len]; exact hjg)⟩
    have hvr2 := vx_out (gV_cell hv hv1).1
    have hvr3 := vx_out (gV_cell hv hvi).1
    have hqm : ((q.map (gAt g)).map VxD.row).length = q.length := by simp
    have hqm2 : (q.map (gAt g)).length < 1000000 := by simp; omega
    have hle : ∀ u ∈ q.map (gAt g), leX u ⟨v.r, v.a, v.p, v.d⟩ := by
      intro u hu
      obtain ⟨y, hy, rfl⟩ := List.mem_map.1 hu
      have hlt := dni_lt hI hPlt hj y hy
      exact leX_of_lt (gV_sorted hv y j _ v hlt (gAt_get (hqg y hy)) hv1)
    repeat' (first|((conv=>whnf); (first|refine draw_plan (id := 13) [] [] (.take 0 (.take 1 (.take 2 (.take 3 (.take 4 (.take 5 (.take 6 (.take 7 (.take 8 (.take 9 (.take 10 (.take 11 (.take 12 (.take 13 (.take 14 (.take 15 .done)))))))))))))))) (by kernel_rfl) (by kernel_rfl) ?_|refine Exists.intro _ (And.intro (at_own (hG2 _ _ hv1)) ?_)|refine Exists.intro _ (And.intro (at_own (hG2 _ _ hvi)) ?_)|refine Exists.intro (q.map (gAt g)) (And.intro rfl (And.intro hqm2 (And.intro hle ?_)))|refine brK_dec (fun _=>?_) (fun _=>?_)|refine brK_ndec (fun _=>?_) (fun _=>?_)|refine brK_not (fun _=>?_) (fun _=>?_)|refine brK_in (fun _=>?_) (fun _=>?_)|refine And.intro (by first|exact rfl|exact ⟨_,rfl,rfl⟩|exact ⟨rfl,rfl,rfl⟩|exact of_decide_eq_true rfl|exact trivial|assumption|omega|(show (_ ≤ _ ∧ _ ≤ _); omega)|(simp; omega)|exact ⟨by first|omega|(simp; omega),_,rfl,rfl⟩) ?_|refine Quo.l (And.intro (by first|exact rfl|assumption|omega|(simp; omega)) ?_)|refine Quo.r (And.intro (by omega) ?_)|refine Both.mk ?_ ?_|refine Exists.intro _ (And.intro rfl ?_)|refine opt_use (by assumption) ?_|refine rprow_use (by assumption) ?_|refine brow_use (by assumption) ?_|refine fun _=>?_))|exact rfl)
    · rename_i _ hxf hr
      subst hxf
      have hr2 : 2 * (w : Int) - 7 ≤ (gAt g j).r := by rw [hgv]; omega
      refine ⟨(k + 1, d1.set j true, q ++ [j]), [0, 1, 2, 3, 4, 5, 6], ⟨by dsimp only; omega, dni_take hI hPlt hj hx hr2⟩, by dsimp only; omega, ?_⟩
      have e1 : boolRows (d1.set j true) = (boolRows d1).set j [B true] := brow_set.symm
      have e2 : ((q ++ [j]).map (gAt g)).map VxD.row = List.map VxD.row (q.map (gAt g) ++ [⟨v.r, v.a, v.p, v.d⟩]) := by
        rw [List.map_append]
        show _ = List.map VxD.row (q.map (gAt g) ++ [v])
        rw [← hgv]
        rfl
      repeat' (first|((conv=>whnf); (first|refine brK_dec (fun _=>?_) (fun _=>?_)|refine brK_ndec (fun _=>?_) (fun _=>?_)|refine brK_not (fun _=>?_) (fun _=>?_)|refine brK_in (fun _=>?_) (fun _=>?_)|refine And.intro (by first|exact rfl|exact (by first|exact e1|exact e2)|exact ⟨_,rfl,rfl⟩|exact ⟨rfl,rfl,rfl⟩|exact of_decide_eq_true rfl|exact trivial|assumption|omega|(show (_ ≤ _ ∧ _ ≤ _); omega)|(simp; omega)|exact ⟨by first|omega|(simp; omega),_,rfl,rfl⟩) ?_|refine Quo.l (And.intro (by first|exact rfl|exact (by first|exact e1|exact e2)|assumption|omega|(simp; omega)) ?_)|refine Quo.r (And.intro (by omega) ?_)|refine Both.mk ?_ ?_|refine Exists.intro _ (And.intro rfl ?_)|refine opt_use (by assumption) ?_|refine rprow_use (by assumption) ?_|refine brow_use (by assumption) ?_|refine fun _=>?_))|exact rfl)
    · rename_i _ hxf hr
      have hr2 : ¬ 2 * (w : Int) - 7 ≤ (gAt g j).r := by rw [hgv]; omega
      refine ⟨(k + 1, d1, q), [0, 1, 2, 3, 4, 5, 6], ⟨by dsimp only; omega, dni_skip hI hPlt hj hx (.inr hr2)⟩, by dsimp only; omega, ?_⟩
      repeat' (first|((conv=>whnf); (first|refine brK_dec (fun _=>?_) (fun _=>?_)|refine brK_ndec (fun _=>?_) (fun _=>?_)|refine brK_not (fun _=>?_) (fun _=>?_)|refine brK_in (fun _=>?_) (fun _=>?_)|refine And.intro (by first|exact rfl|exact ⟨_,rfl,rfl⟩|exact ⟨rfl,rfl,rfl⟩|exact of_decide_eq_true rfl|exact trivial|assumption|omega|(show (_ ≤ _ ∧ _ ≤ _); omega)|(simp; omega)|exact ⟨by first|omega|(simp; omega),_,rfl,rfl⟩) ?_|refine Quo.l (And.intro (by first|exact rfl|assumption|omega|(simp; omega)) ?_)|refine Quo.r (And.intro (by omega) ?_)|refine Both.mk ?_ ?_|refine Exists.intro _ (And.intro rfl ?_)|refine opt_use (by assumption) ?_|refine rprow_use (by assumption) ?_|refine brow_use (by assumption) ?_|refine fun _=>?_))|exact rfl)
    · rename_i _ hxt
      refine ⟨(k + 1, d1, q), [0, 1, 2, 3, 4, 5, 6], ⟨by dsimp only; omega, dni_skip hI hPlt hj hx (.inl hxt)⟩, by dsimp only; omega, ?_⟩
      repeat' (first|((conv=>whnf); (first|refine brK_dec (fun _=>?_) (fun _=>?_)|refine brK_ndec (fun _=>?_) (fun _=>?_)|refine brK_not (fun _=>?_) (fun _=>?_)|refine brK_in (fun _=>?_) (fun _=>?_)|refine And.intro (by first|exact rfl|exact ⟨_,rfl,rfl⟩|exact ⟨rfl,rfl,rfl⟩|exact of_decide_eq_true rfl|exact trivial|assumption|omega|(show (_ ≤ _ ∧ _ ≤ _); omega)|(simp; omega)|exact ⟨by first|omega|(simp; omega),_,rfl,rfl⟩) ?_|refine Quo.l (And.intro (by first|exact rfl|assumption|omega|(simp; omega)) ?_)|refine Quo.r (And.intro (by omega) ?_)|refine Both.mk ?_ ?_|refine Exists.intro _ (And.intro rfl ?_)|refine opt_use (by assumption) ?_|refine rprow_use (by assumption) ?_|refine brow_use (by assumption) ?_|refine fun _=>?_))|exact rfl)
    · omega
  · have hqm2 : (q.map (gAt g)).length < 1000000 := by simp; omega
    have hqs := idx_lt (gV_sorted hv) hI.asc hqg
    have hhp := hp_sorted hqs (q.map (gAt g)).length
    obtain ⟨hqb, hdn⟩ := hend k d1 q (by omega) hI
    have hne : q.map (gAt g) ≠ [] := by
      have hm : i0 ∈ q := by
        rw [hqb]
        exact blk_mem.2 ⟨hil0, (wv_lead (gV_sorted hv) hasc (List.mem_of_getElem? hw) hi0).1⟩
      intro e
      have : gAt g i0 ∈ q.map (gAt g) := List.mem_map.2 ⟨i0, hm, rfl⟩
      rw [e] at this
      cases this
    repeat' (first|((conv=>whnf); (first|refine brK_dec (fun _=>?_) (fun _=>?_)|refine brK_ndec (fun _=>?_) (fun _=>?_)|refine brK_not (fun _=>?_) (fun _=>?_)|refine brK_in (fun _=>?_) (fun _=>?_)|refine And.intro (by first|exact rfl|exact ⟨_,rfl,rfl⟩|exact ⟨rfl,rfl,rfl⟩|exact of_decide_eq_true rfl|exact trivial|assumption|omega|(show (_ ≤ _ ∧ _ ≤ _); omega)|(simp; omega)|exact ⟨by first|omega|(simp; omega),_,rfl,rfl⟩) ?_|refine Quo.l (And.intro (by first|exact rfl|assumption|omega|(simp; omega)) ?_)|refine Quo.r (And.intro (by omega) ?_)|refine Both.mk ?_ ?_|refine Exists.intro _ (And.intro rfl ?_)|refine opt_use (by assumption) ?_|refine rprow_use (by assumption) ?_|refine brow_use (by assumption) ?_|refine fun _=>?_))|exact rfl)
    · omega
    refine ⟨fun e => absurd e hne, fun _ o q2 hD => ?_⟩
    obtain rfl := drn_done hD hqs
    have e3 : ordR g L W (W.take (n + 1)) = ordR g L W (W.take n) ++ ((q.map (gAt g)).map (oRow w)) := by
      rw [ordR_snoc hw, blkX, ← hqb]
    have hol := ordR_len (g := g) (L := L) (W := W) (W' := W.take n)
    have hol2 : (W.take n).length * g.length ≤ 15 * g.length := Nat.mul_le_mul_right _ (by rw [List.length_take]; omega)
    have hom : ((q.map (gAt g)).map (oRow w)).length = q.length := by simp
    have e4 : ordR g L W (W.take (n + 1)) = (ordR g L W (W.take n)).take (ordR g L W (W.take n)).length ++ ((q.map (gAt g)).map (oRow w)) := by rw [List.take_length]; exact e3
    repeat' (first|((conv=>whnf); (first|refine brK_dec (fun _=>?_) (fun _=>?_)|refine brK_ndec (fun _=>?_) (fun _=>?_)|refine brK_not (fun _=>?_) (fun _=>?_)|refine brK_in (fun _=>?_) (fun _=>?_)|refine And.intro (by first|exact rfl|exact (by first|(show (_ + _) * 56 ≤ 140737488355328; omega)|omega)|exact ⟨_,rfl,rfl⟩|exact ⟨rfl,rfl,rfl⟩|exact of_decide_eq_true rfl|exact trivial|assumption|omega|(show (_ ≤ _ ∧ _ ≤ _); omega)|(simp; omega)|exact ⟨by first|omega|(simp; omega),_,rfl,rfl⟩) ?_|refine Quo.l (And.intro (by first|exact rfl|exact (by first|(show (_ + _) * 56 ≤ 140737488355328; omega)|omega)|assumption|omega|(simp; omega)) ?_)|refine Quo.r (And.intro (by omega) ?_)|refine Both.mk ?_ ?_|refine Exists.intro _ (And.intro rfl ?_)|refine opt_use (by assumption) ?_|refine rprow_use (by assumption) ?_|refine brow_use (by assumption) ?_|refine fun _=>?_))|exact rfl)
    refine ⟨(n + 1, d1), [0, 1, 2, 3], ⟨by dsimp only; omega, hdn⟩, by dsimp only; omega, ?_⟩
    repeat' (first|((conv=>whnf); (first|refine brK_dec (fun _=>?_) (fun _=>?_)|refine brK_ndec (fun _=>?_) (fun _=>?_)|refine brK_not (fun _=>?_) (fun _=>?_)|refine brK_in (fun _=>?_) (fun _=>?_)|refine And.intro (by first|exact rfl|exact e4|exact ⟨_,rfl,rfl⟩|exact ⟨rfl,rfl,rfl⟩|exact of_decide_eq_true rfl|exact trivial|assumption|omega|(show (_ ≤ _ ∧ _ ≤ _); omega)|(simp; omega)|exact ⟨by first|omega|(simp; omega),_,rfl,rfl⟩) ?_|refine Quo.l (And.intro (by first|exact rfl|exact e4|assumption|omega|(simp; omega)) ?_)|refine Quo.r (And.intro (by omega) ?_)|refine Both.mk ?_ ?_|refine Exists.intro _ (And.intro rfl ?_)|refine opt_use (by assumption) ?_|refine rprow_use (by assumption) ?_|refine brow_use (by assumption) ?_|refine fun _=>?_))|exact rfl)
end Go.Proofs.YtkabnbjlglippaaGreatDoor
