/-
The reference's answers about the order.
No conditions.
-/
import Derived.Test.YtkabnbjlglippaaDoorOgA
import Derived.Test.YtkabnbjlglippaaDoorOiX
namespace Go.Proofs.YtkabnbjlglippaaDoor
open Go Go.Vc
set_option maxHeartbeats 4000000
set_option maxRecDepth 10000
noncomputable def c_spec_OrderSlots : Con := ⟨1, 0, false, fun xs hs _ K => match xs with
  | [.ints c, .sl 4 rows, .ints L] => hs = [] ∧ ∃ g : List VxD, rows = g.map VxD.row ∧ c.length < 2000000 ∧ g.length < 2000000 ∧ (∀ v ∈ g, v.p.length < 2000000) ∧ L.length < 2000000 ∧ K (.own 0) [.arr 2 ((slotsP c g L).map pR)] []
  | _ => False⟩
theorem ordV_bound {g : List VxD} {L : List Int} {W : List Nat} : ∀ k ∈ (ordV g L W).map (·.1), k < g.length := by
  intro k hk
  obtain ⟨⟨a, b⟩, h1, rfl⟩ := List.mem_map.1 hk
  exact (ord_mem.1 h1).2.1
theorem ordV_len {g : List VxD} {L : List Int} {W : List Nat} : ((ordV g L W).map (·.1)).length ≤ W.length * g.length := by
  have := ordO_len (g := g) (L := L) (W := W)
  have e : (ordX g L W).length = (ordO g L W).length := by rw [ordX_of, List.length_map]
  rw [ordX_eq, List.length_map] at e
  rw [List.length_map]
  omega
theorem slotsO_idx {c : List Int} {g : List VxD} {L : List Int} (h : okO c g L = true) : slotsO c g L = ((ordV g L (outV c g L)).map (·.1)).map (gAt g) := by
  rw [slotsO, if_pos h, ordX_eq, List.map_map]
  rfl
theorem okO_no {c : List Int} {g : List VxD} {L : List Int} (h : okO c g L = false) : slotsO c g L = [] := by
  rw [slotsO, h]
  rfl
noncomputable def c_spec_OrderDigests : Con := ⟨1, 0, false, fun xs hs _ K => match xs with
  | [.ints c, .sl 4 rows, .ints L] => hs = [] ∧ ∃ g : List VxD, rows = g.map VxD.row ∧ c.length < 2000000 ∧ g.length < 2000000 ∧ (∀ v ∈ g, v.p.length < 2000000) ∧ L.length < 2000000 ∧ K (.own 0) [.iarr (digO c g L)] []
  | _ => False⟩
noncomputable def c_spec_OrderWave : Con := ⟨0, 0, false, fun xs hs _ K => match xs with
  | [.ints c, .sl 4 rows, .ints L, .agg [.val (.int .i64 r), .val (.int .i64 a)]] => hs = [] ∧ ∃ g : List VxD, rows = g.map VxD.row ∧ c.length < 2000000 ∧ g.length < 2000000 ∧ (∀ v ∈ g, v.p.length < 2000000) ∧ L.length < 2000000 ∧ K (I (waveO c g L r a)) [] []
  | _ => False⟩
theorem k_spec_OrderWave : Keeps' Tryd.prog 5 c_spec_OrderWave := by
  refine keeps_of_vc mix TyT_ok (cok_cons k_spec_l21Ok Tryd.func13 rfl rfl (cok_cons k_spec_l11Find Tryd.func14 rfl rfl (cok_cons k_spec_l22Waves Tryd.func15 rfl rfl cok_nil))) Tryd.func5 rfl rfl rfl ?_
  intro aargs hs Fs K h
  simp only [c_spec_OrderWave] at h
  split at h
  case h_2 => exact h.elim
  rename_i c rows L r a
  obtain ⟨rfl, g, rfl, hc, hg, hp, hL, h⟩ := h
  have hlen : (g.map VxD.row).length = g.length := by simp
  rcases fnd_cases g r a with ⟨k, h1, h2, h3⟩ | ⟨h1, h2⟩
  · rw [waveO, h1] at h
    repeat' (first|((conv=>whnf); (first|refine draw_plan (id := 3) [] [] (.take 0 (.take 1 (.take 2 (.take 4 (.take 5 (.take 6 (.take 7 (.take 8 (.run 3 (.run 9 (.take 10 (.run 11 (.take 12 .done))))))))))))) (by kernel_rfl) (by kernel_rfl) ?_|refine brK_dec (fun _=>?_) (fun _=>?_)|refine brK_ndec (fun _=>?_) (fun _=>?_)|refine brK_not (fun _=>?_) (fun _=>?_)|refine brK_in (fun _=>?_) (fun _=>?_)|refine And.intro (by first|exact rfl|exact (by first|exact and1 (by assumption)|exact leaders_len (and2 (by assumption)))|exact ⟨_,rfl,rfl⟩|exact ⟨rfl,rfl,rfl⟩|exact of_decide_eq_true rfl|exact trivial|assumption|omega|(show (_ ≤ _ ∧ _ ≤ _); omega)|(simp; omega)|exact ⟨by first|omega|(simp; omega),_,rfl,rfl⟩) ?_|refine Quo.l (And.intro (by first|exact rfl|exact (by first|exact and1 (by assumption)|exact leaders_len (and2 (by assumption)))|assumption|omega|(simp; omega)) ?_)|refine Quo.r (And.intro (by omega) ?_)|refine Both.mk ?_ ?_|refine Exists.intro _ (And.intro rfl ?_)|refine rep_in ?_|refine opt_use (by assumption) ?_|refine vrow_use (by assumption) ?_|refine vrow_in (fun _ _=>?_)|refine fun _=>?_))|exact rfl)
    · rename_i e
      rw [okO, e] at h
      exact h
    · omega
    · rename_i e hn
      have e : okO c g L = true := e
      rw [if_pos e] at h
      have hx : (wvI g L (outV c g L))[((k : Nat) : Int).toNat]? = some (wvV g L (outV c g L) k : Int) := wvI_get h3
      have hwl := wvI_len (g := g) (L := L) (W := outV c g L)
      rw [h2]
      repeat' (first|((conv=>whnf); (first|refine brK_dec (fun _=>?_) (fun _=>?_)|refine brK_ndec (fun _=>?_) (fun _=>?_)|refine brK_not (fun _=>?_) (fun _=>?_)|refine brK_in (fun _=>?_) (fun _=>?_)|refine And.intro (by first|exact rfl|exact ⟨_,rfl,rfl⟩|exact ⟨rfl,rfl,rfl⟩|exact of_decide_eq_true rfl|exact trivial|assumption|omega|(show (_ ≤ _ ∧ _ ≤ _); omega)|(simp; omega)|exact ⟨by first|omega|(simp; omega),_,rfl,rfl⟩) ?_|refine Quo.l (And.intro (by first|exact rfl|assumption|omega|(simp; omega)) ?_)|refine Quo.r (And.intro (by omega) ?_)|refine Both.mk ?_ ?_|refine Exists.intro _ (And.intro rfl ?_)|refine rep_in ?_|refine opt_use (by assumption) ?_|refine vrow_use (by assumption) ?_|refine vrow_in (fun _ _=>?_)|refine fun _=>?_))|exact rfl)
      exact h
  · rw [waveO, h1] at h
    have h : K (I (-1)) [] [] := by
      have e2 : (if okO c g L = true then (-1 : Int) else -1) = -1 := by split <;> rfl
      rw [← e2]
      exact h
    repeat' (first|((conv=>whnf); (first|refine draw_plan (id := 3) [] [] (.take 0 (.take 1 (.take 2 (.take 4 (.take 5 (.take 6 (.take 7 (.take 8 (.run 3 (.run 9 (.take 10 (.run 11 (.take 12 .done))))))))))))) (by kernel_rfl) (by kernel_rfl) ?_|refine brK_dec (fun _=>?_) (fun _=>?_)|refine brK_ndec (fun _=>?_) (fun _=>?_)|refine brK_not (fun _=>?_) (fun _=>?_)|refine brK_in (fun _=>?_) (fun _=>?_)|refine And.intro (by first|exact rfl|exact (by first|exact and1 (by assumption)|exact leaders_len (and2 (by assumption)))|exact ⟨_,rfl,rfl⟩|exact ⟨rfl,rfl,rfl⟩|exact of_decide_eq_true rfl|exact trivial|assumption|omega|(show (_ ≤ _ ∧ _ ≤ _); omega)|(simp; omega)|exact ⟨by first|omega|(simp; omega),_,rfl,rfl⟩) ?_|refine Quo.l (And.intro (by first|exact rfl|exact (by first|exact and1 (by assumption)|exact leaders_len (and2 (by assumption)))|assumption|omega|(simp; omega)) ?_)|refine Quo.r (And.intro (by omega) ?_)|refine Both.mk ?_ ?_|refine Exists.intro _ (And.intro rfl ?_)|refine rep_in ?_|refine opt_use (by assumption) ?_|refine vrow_use (by assumption) ?_|refine vrow_in (fun _ _=>?_)|refine fun _=>?_))|exact rfl)
    · exact h
    · exact h
    · omega
end Go.Proofs.YtkabnbjlglippaaDoor
