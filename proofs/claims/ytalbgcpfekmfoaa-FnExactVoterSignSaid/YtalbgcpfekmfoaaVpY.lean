/-
Contracts on rows of votes, nil slices among the arguments.
No conditions.
-/
import Derived.Test.YtalbgcpfekmfoaaVpC
namespace Go.Proofs.Ytalbgcpfekmfoaa
open Go Go.Vc
def nilRC : AV → AV
  | .val (.slice none 0 0) => .sl 3 []
  | a => a
def nilRA : AV → AV
  | .agg cs => .agg (cs.map nilRC)
  | a => nilRC a
theorem nilRC_rep {c : Ctx} {a : AV} {v : Value} (h : RepV c a v) : RepV c (nilRC a) v := by
  unfold nilRC
  split
  · cases h; exact .sl0 3 _ _
  · exact h
theorem nilRA_rep {c : Ctx} {a : AV} {v : Value} (h : RepV c a v) : RepV c (nilRA a) v := by
  unfold nilRA
  split
  · rename_i cs
    cases h with
    | agg _ vs hl h1 h =>
      refine .agg _ vs (by simpa using hl) h1 fun i a v ha hv => ?_
      rw [List.getElem?_map] at ha
      obtain ⟨a0, ha0, rfl⟩ := Option.map_eq_some_iff.1 ha
      exact nilRC_rep (h i a0 v ha0 hv)
  · exact nilRC_rep h
def nilRCon (con : Con) : Con := ⟨con.nnew, con.mode, con.alias, fun xs hs Fs K => con.C (xs.map nilRA) hs Fs K⟩
theorem keeps_nilR {P : Program} {f : FuncId} {con : Con} (h : Keeps' P f con) : Keeps' P f (nilRCon con) := by
  intro E args aargs hs Fs K hc hl hn hsat hr hfx
  refine h E args (aargs.map nilRA) hs Fs K hc (by simpa using hl) hn hsat (fun i a v ha hv => ?_) hfx
  rw [List.getElem?_map] at ha
  obtain ⟨a0, ha0, rfl⟩ := Option.map_eq_some_iff.1 ha
  exact nilRA_rep (hr i a0 v ha0 hv)
theorem trow_nil {P : List VtD → Prop} (h : P []) : ∃ l, [] = l.map VtD.row ∧ P l := ⟨[], rfl, h⟩
end Go.Proofs.Ytalbgcpfekmfoaa
