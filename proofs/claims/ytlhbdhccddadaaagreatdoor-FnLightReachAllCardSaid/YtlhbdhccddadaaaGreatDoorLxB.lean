/-
The laws' own comparisons of drawn things.
No conditions.
-/
import Derived.Test.YtlhbdhccddadaaaGreatDoorLxE
namespace Go.Proofs.YtlhbdhccddadaaaGreatDoor
open Go Go.Vc
set_option maxHeartbeats 1000000
set_option maxRecDepth 10000
def c_laws_sameEpoch : Con := ⟨0, 0, false, fun xs hs _ K => match xs with
  | [.agg [.val (.int .i64 n), .ints c, .ints k, .val (.int .i64 r)], .agg [.val (.int .i64 n'), .ints c', .ints k', .val (.int .i64 r')]] =>
    hs = [] ∧ c.length < 2000000 ∧ k.length < 2000000 ∧ c'.length < 2000000 ∧ k'.length < 2000000 ∧ K (B (decide (n = n' ∧ c = c' ∧ k = k' ∧ r = r'))) [] []
  | _ => False⟩
end Go.Proofs.YtlhbdhccddadaaaGreatDoor
