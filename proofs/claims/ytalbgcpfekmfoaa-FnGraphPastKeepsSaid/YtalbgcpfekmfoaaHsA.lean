/-
The reference's look for a number in a list.
No conditions.
-/
import Derived.Test.YtalbgcpfekmfoaaEvA
namespace Go.Proofs.Ytalbgcpfekmfoaa
open Go Go.Vc
set_option maxHeartbeats 1000000
set_option maxRecDepth 10000
def c_spec_l1Has : Con := ⟨0, 0, false, fun xs hs _ K => match xs with
  | [.ints l, .val (.int .i64 x)] => hs = [] ∧ l.length < 2000000 ∧ K (B (decide (x ∈ l))) [] []
  | _ => False⟩
end Go.Proofs.Ytalbgcpfekmfoaa
