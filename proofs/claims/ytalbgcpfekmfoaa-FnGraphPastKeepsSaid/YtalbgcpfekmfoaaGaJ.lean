/-
slices.Insert at vertices: at the end.
No conditions.
-/
import Derived.Test.YtalbgcpfekmfoaaGaI
namespace Go.Proofs.Ytalbgcpfekmfoaa
open Go Go.Vc
set_option maxHeartbeats 2000000
set_option maxRecDepth 10000
def c_ins_end : Con := ⟨0, 2, true, fun xs hs _ K => match xs, hs with
  | [.own 0, .val (.int .i64 i), .own 1], [.arr 4 rows, .arr 4 [e]] => ∃ (g : List VxD) (v : VxD), rows = g.map VxD.row ∧ e = v.row ∧ g.length < 1000000 ∧ i = g.length ∧ K (.own 0) [.arr 4 ((g ++ [v]).map VxD.row), .arr 4 [v.row]] []
  | _, _ => False⟩
theorem k_slices_Insert_Vertex : Keeps' Try.prog 47 c_ins_end := by
  refine keeps_of_vc mix TyT_ok cok_nil Try.func47 rfl rfl rfl ?_
  intro aargs hs Fs K h
  simp only [c_ins_end] at h
  split at h
  case h_2 => exact h.elim
  rename_i i rows e
  obtain ⟨g, v, rfl, rfl, hg, rfl, h⟩ := h
  have hlen : (g.map VxD.row).length = g.length := by simp
  repeat' (first|((conv=>whnf); (first|refine draw_plan (id := 11) [] [8] (.take 0 (.take 1 (.take 2 (.take 3 (.take 4 (.take 5 (.take 6 (.take 7 (.run 8 .done))))))))) (by kernel_rfl) (by kernel_rfl) ?_|refine draw_plan (id := 15) [] [8] (.take 0 (.take 1 (.take 2 (.take 3 (.take 4 (.take 5 (.take 6 (.take 7 (.run 8 .done))))))))) (by kernel_rfl) (by kernel_rfl) ?_|refine brK_dec (fun _=>?_) (fun _=>?_)|refine brK_ndec (fun _=>?_) (fun _=>?_)|refine brK_not (fun _=>?_) (fun _=>?_)|refine brK_in (fun _=>?_) (fun _=>?_)|refine And.intro (by first|exact rfl|exact ⟨_,rfl,rfl⟩|exact ⟨rfl,rfl,rfl⟩|exact of_decide_eq_true rfl|exact trivial|assumption|omega|(show (_ ≤ _ ∧ _ ≤ _); omega)|(simp; omega)|exact ⟨by first|omega|(simp; omega),_,rfl,rfl⟩) ?_|refine Quo.l (And.intro (by first|exact rfl|assumption|omega|(simp; omega)) ?_)|refine Quo.r (And.intro (by omega) ?_)|refine Both.mk ?_ ?_|refine Exists.intro _ (And.intro rfl ?_)|refine fun _=>?_))|exact rfl)
  · have e : List.take (g.map VxD.row).length (g.map VxD.row) ++ [v.row] = (g ++ [v]).map VxD.row := by
      rw [List.take_length, List.map_append]
      rfl
    rw [e]
    exact h
  · exfalso
    omega
end Go.Proofs.Ytalbgcpfekmfoaa
