/-
Copies of epochs.
No conditions.
-/
import Derived.Test.YtalbgcpfekmfoaaEvA
namespace Go.Proofs.Ytalbgcpfekmfoaa
open Go Go.Vc
set_option maxHeartbeats 1000000
set_option maxRecDepth 10000
def c_spec_l41Copy : Con := ⟨2, 0, false, fun xs hs _ K => match xs with
  | [.agg [.val (.int .i64 n), .ints c, .ints k, .val (.int .i64 r)]] => hs = [] ∧ c.length ≤ 2000000 ∧ k.length ≤ 2000000 ∧ K (.agg [I n, .own 0, .own 1, I r]) [.iarr c, .iarr k] []
  | _ => False⟩
end Go.Proofs.Ytalbgcpfekmfoaa
