/-
The law FnExactOrderWave: its contract.
No conditions.
-/
import Derived.Test.YtkabnbjlglippaaDoorOgB
import Derived.Test.YtkabnbjlglippaaDoorOiX
import Derived.Test.YtkabnbjlglippaaDoorXvA
namespace Go.Proofs.YtkabnbjlglippaaDoor
open Go Go.Vc
set_option maxHeartbeats 4000000
set_option maxRecDepth 10000
def c_laws_FnExactOrderWave : Con := ⟨0, 0, false, fun xs hs Fs K => match xs with
  | [.ints c, .sl 4 rows, .ints L, .agg [.val (.int .i64 _), .val (.int .i64 _)]] =>
    hs = [] ∧ ∃ p0 p1 p2, hasErr Fs p0 p1 p2 ∧ c.length ≤ 9223372036854775807 ∧ (∃ g : List VxD, rows = g.map VxD.row ∧ (∀ x ∈ g, x.big) ∧ g.length ≤ 9223372036854775807) ∧ L.length ≤ 9223372036854775807 ∧ K (B true) [] []
  | _ => False⟩
theorem k_laws_FnExactOrderWave : Keeps' Tryd.prog 3 c_laws_FnExactOrderWave := by
  refine keeps_of_vc mix TyT_ok (cok_cons k_laws_szVertexS Tryd.func4 rfl rfl (cok_cons k_laws_toIntS Tryd.func6 rfl rfl (cok_cons k_laws_toVertexS Tryd.func7 rfl rfl (cok_cons k_laws_toSlot Tryd.func8 rfl rfl (cok_cons k_spec_OrderWave Tryd.func5 rfl rfl (cok_cons k_impl_OrderWave Tryd.func9 rfl rfl (cok_cons k_laws_eqIntS Tryd.func10 rfl rfl (cok_cons k_laws_eqVertexS Tryd.func11 rfl rfl cok_nil)))))))) Tryd.func3 rfl rfl rfl ?_
  intro aargs hs Fs K h
  simp only [c_laws_FnExactOrderWave] at h
  split at h
  case h_2 => exact h.elim
  rename_i c rows L r a
  obtain ⟨rfl, p0, p1, p2, hE, l1, ⟨g, rfl, hbig, l2⟩, l3, h⟩ := h
  have hlen : (g.map VxD.row).length = g.length := by simp
  have hE2 : hasErr (Fs ++ ([] : List Fam)) p0 p1 p2 := err_app hE
  repeat' (first|((conv=>whnf); (first|refine draw_plan (id := 9) [] [] (.take 0 (.take 2 (.take 4 (.take 6 (.run 1 (.run 3 (.run 5 (.run 7 (.run 8 (.take 9 .done)))))))))) (by kernel_rfl) (by kernel_rfl) ?_|refine brK_dec (fun _=>?_) (fun _=>?_)|refine brK_ndec (fun _=>?_) (fun _=>?_)|refine brK_not (fun _=>?_) (fun _=>?_)|refine brK_in (fun _=>?_) (fun _=>?_)|refine And.intro (by first|exact rfl|exact hbig|exact ⟨_,rfl,rfl⟩|exact ⟨rfl,rfl,rfl⟩|exact of_decide_eq_true rfl|exact trivial|assumption|omega|(show (_ ≤ _ ∧ _ ≤ _); omega)|(simp; omega)|exact ⟨by first|omega|(simp; omega),_,rfl,rfl⟩) ?_|refine Quo.l (And.intro (by first|exact rfl|exact hbig|assumption|omega|(simp; omega)) ?_)|refine Quo.r (And.intro (by omega) ?_)|refine Both.mk ?_ ?_|refine Exists.intro _ (And.intro rfl ?_)|refine fun _=>?_))|exact rfl)
  · exact h
  · exact h
  · exact h
  rename_i v hv hfin hge
  obtain ⟨l4, hmid⟩ := hfin (by omega)
  have hsm : ∀ x ∈ g, x.p.length < 2000000 := fun x hx => Nat.lt_of_le_of_lt (hmid x hx) (by decide)
  repeat' (first|((conv=>whnf); (first|refine draw_plan (id := 9) [] [] (.take 0 (.take 2 (.take 4 (.take 6 (.run 1 (.run 3 (.run 5 (.run 7 (.run 8 (.take 9 .done)))))))))) (by kernel_rfl) (by kernel_rfl) ?_|refine brK_dec (fun _=>?_) (fun _=>?_)|refine brK_ndec (fun _=>?_) (fun _=>?_)|refine brK_not (fun _=>?_) (fun _=>?_)|refine brK_in (fun _=>?_) (fun _=>?_)|refine And.intro (by first|exact rfl|exact (by first|exact hmid|exact hsm)|exact ⟨_,rfl,rfl⟩|exact ⟨rfl,rfl,rfl⟩|exact of_decide_eq_true rfl|exact trivial|assumption|omega|(show (_ ≤ _ ∧ _ ≤ _); omega)|(simp; omega)|exact ⟨by first|omega|(simp; omega),_,rfl,rfl⟩) ?_|refine Quo.l (And.intro (by first|exact rfl|exact (by first|exact hmid|exact hsm)|assumption|omega|(simp; omega)) ?_)|refine Quo.r (And.intro (by omega) ?_)|refine Both.mk ?_ ?_|refine Exists.intro _ (And.intro rfl ?_)|refine fun _=>?_))|exact rfl)
  refine Exists.intro p0 (Exists.intro p1 (Exists.intro p2 (And.intro hE2 ?_)))
  repeat' (first|((conv=>whnf); (first|refine draw_plan (id := 9) [] [] (.take 0 (.take 2 (.take 4 (.take 6 (.run 1 (.run 3 (.run 5 (.run 7 (.run 8 (.take 9 .done)))))))))) (by kernel_rfl) (by kernel_rfl) ?_|refine brK_dec (fun _=>?_) (fun _=>?_)|refine brK_ndec (fun _=>?_) (fun _=>?_)|refine brK_not (fun _=>?_) (fun _=>?_)|refine brK_in (fun _=>?_) (fun _=>?_)|refine And.intro (by first|exact rfl|exact (by first|exact hmid|exact hsm)|exact ⟨_,rfl,rfl⟩|exact ⟨rfl,rfl,rfl⟩|exact of_decide_eq_true rfl|exact trivial|assumption|omega|(show (_ ≤ _ ∧ _ ≤ _); omega)|(simp; omega)|exact ⟨by first|omega|(simp; omega),_,rfl,rfl⟩) ?_|refine Quo.l (And.intro (by first|exact rfl|exact (by first|exact hmid|exact hsm)|assumption|omega|(simp; omega)) ?_)|refine Quo.r (And.intro (by omega) ?_)|refine Both.mk ?_ ?_|refine Exists.intro _ (And.intro rfl ?_)|refine fun _=>?_))|exact rfl)
  all_goals first
    | exact h
    | (rename_i q; exact absurd rfl q)
    | trace_state
end Go.Proofs.YtkabnbjlglippaaDoor
