/-
The table of types. MADE BY PROGRAM (mktt.py).
No conditions.
-/
import Derived.Test.YtalbgcpfekmfoaaProg
import Derived.Test.YtalbgcpfekmfoaaVcMF
namespace Go.Proofs.Ytalbgcpfekmfoaa
open Go.Vc
def tt : List (TypeId × TI) := [
  (1, (TI.mk 0 false 1 8 [Value.nilFunc] [] 0 0 IntKind.i64)),
  (2, (TI.mk 6 false 1 8 [Value.int IntKind.i64 0] [] 0 0 IntKind.i64)),
  (3, (TI.mk 6 false 1 8 [Value.int IntKind.i64 0] [] 0 0 IntKind.i64)),
  (4, (TI.mk 5 false 1 1 [Value.bool false] [] 0 0 IntKind.i64)),
  (5, (TI.mk 6 false 1 1 [Value.int IntKind.u8 0] [] 0 0 IntKind.u8)),
  (6, (TI.mk 6 false 1 1 [Value.int IntKind.u8 0] [] 0 0 IntKind.u8)),
  (7, (TI.mk 3 true 4 24 [Value.int IntKind.i64 0, Value.int IntKind.i64 0, Value.bool false, Value.int IntKind.u8 0] [(0, 1), (1, 1), (2, 1), (3, 1)] 0 0 IntKind.i64)),
  (8, (TI.mk 3 true 4 24 [Value.int IntKind.i64 0, Value.int IntKind.i64 0, Value.bool false, Value.int IntKind.u8 0] [(0, 1), (1, 1), (2, 1), (3, 1)] 0 0 IntKind.i64)),
  (9, (TI.mk 4 false 1 16 [Value.string (ByteArray.mk (Array.mk []))] [] 0 0 IntKind.i64)),
  (10, (TI.mk 4 false 1 16 [Value.string (ByteArray.mk (Array.mk []))] [] 0 0 IntKind.i64)),
  (11, (TI.mk 4 false 1 16 [Value.string (ByteArray.mk (Array.mk []))] [] 0 0 IntKind.i64)),
  (12, (TI.mk 6 false 1 8 [Value.int IntKind.u64 0] [] 0 0 IntKind.u64)),
  (13, (TI.mk 3 true 2 24 [Value.string (ByteArray.mk (Array.mk [])), Value.int IntKind.u64 0] [(0, 1), (1, 1)] 0 0 IntKind.i64)),
  (14, (TI.mk 3 true 2 24 [Value.string (ByteArray.mk (Array.mk [])), Value.int IntKind.u64 0] [(0, 1), (1, 1)] 0 0 IntKind.i64)),
  (15, (TI.mk 7 false 1 8 [Value.pointer none] [] 147 0 IntKind.i64)),
  (16, (TI.mk 7 false 1 8 [Value.pointer none] [] 150 0 IntKind.i64)),
  (17, (TI.mk 7 false 1 8 [Value.pointer none] [] 158 0 IntKind.i64)),
  (18, (TI.mk 3 true 1 8 [Value.pointer none] [(0, 1)] 0 0 IntKind.i64)),
  (19, (TI.mk 3 true 1 8 [Value.pointer none] [(0, 1)] 0 0 IntKind.i64)),
  (20, (TI.mk 8 false 1 16 [Value.nilIface] [] 0 0 IntKind.i64)),
  (21, (TI.mk 6 false 1 4 [Value.int IntKind.i32 0] [] 0 0 IntKind.i32)),
  (22, (TI.mk 1 false 1 24 [Value.slice none 0 0] [] 26 0 IntKind.i64)),
  (23, (TI.mk 3 true 2 32 [Value.int IntKind.i64 0, Value.slice none 0 0] [(0, 1), (1, 1)] 0 0 IntKind.i64)),
  (24, (TI.mk 3 true 2 32 [Value.int IntKind.i64 0, Value.slice none 0 0] [(0, 1), (1, 1)] 0 0 IntKind.i64)),
  (25, (TI.mk 3 true 3 24 [Value.int IntKind.i64 0, Value.int IntKind.i64 0, Value.int IntKind.i64 0] [(0, 1), (1, 1), (2, 1)] 0 0 IntKind.i64)),
  (26, (TI.mk 3 true 3 24 [Value.int IntKind.i64 0, Value.int IntKind.i64 0, Value.int IntKind.i64 0] [(0, 1), (1, 1), (2, 1)] 0 0 IntKind.i64)),
  (27, (TI.mk 0 false 1 8 [Value.nilFunc] [] 0 0 IntKind.i64)),
  (28, (TI.mk 1 false 1 24 [Value.slice none 0 0] [] 34 0 IntKind.i64)),
  (29, (TI.mk 3 true 2 32 [Value.int IntKind.i64 0, Value.slice none 0 0] [(0, 1), (1, 1)] 0 0 IntKind.i64)),
  (30, (TI.mk 3 true 2 32 [Value.int IntKind.i64 0, Value.slice none 0 0] [(0, 1), (1, 1)] 0 0 IntKind.i64)),
  (32, (TI.mk 0 false 1 8 [Value.nilFunc] [] 0 0 IntKind.i64)),
  (33, (TI.mk 0 false 1 8 [Value.nilFunc] [] 0 0 IntKind.i64)),
  (34, (TI.mk 3 true 3 24 [Value.int IntKind.i64 0, Value.int IntKind.i64 0, Value.int IntKind.i64 0] [(0, 1), (1, 1), (2, 1)] 0 0 IntKind.i64)),
  (35, (TI.mk 0 false 1 8 [Value.nilFunc] [] 0 0 IntKind.i64)),
  (36, (TI.mk 0 false 1 8 [Value.nilFunc] [] 0 0 IntKind.i64)),
  (37, (TI.mk 0 false 1 8 [Value.nilFunc] [] 0 0 IntKind.i64)),
  (38, (TI.mk 0 false 1 8 [Value.nilFunc] [] 0 0 IntKind.i64)),
  (39, (TI.mk 1 false 1 24 [Value.slice none 0 0] [] 5 0 IntKind.i64)),
  (40, (TI.mk 1 false 1 24 [Value.slice none 0 0] [] 3 0 IntKind.i64)),
  (41, (TI.mk 1 false 1 24 [Value.slice none 0 0] [] 43 0 IntKind.i64)),
  (42, (TI.mk 3 true 4 48 [Value.int IntKind.i64 0, Value.int IntKind.i64 0, Value.slice none 0 0, Value.int IntKind.i64 0] [(0, 1), (1, 1), (2, 1), (3, 1)] 0 0 IntKind.i64)),
  (43, (TI.mk 3 true 4 48 [Value.int IntKind.i64 0, Value.int IntKind.i64 0, Value.slice none 0 0, Value.int IntKind.i64 0] [(0, 1), (1, 1), (2, 1), (3, 1)] 0 0 IntKind.i64)),
  (45, (TI.mk 0 false 1 8 [Value.nilFunc] [] 0 0 IntKind.i64)),
  (47, (TI.mk 0 false 1 8 [Value.nilFunc] [] 0 0 IntKind.i64)),
  (48, (TI.mk 0 false 1 8 [Value.nilFunc] [] 0 0 IntKind.i64)),
  (49, (TI.mk 0 false 1 8 [Value.nilFunc] [] 0 0 IntKind.i64)),
  (50, (TI.mk 0 false 1 8 [Value.nilFunc] [] 0 0 IntKind.i64)),
  (51, (TI.mk 0 false 1 8 [Value.nilFunc] [] 0 0 IntKind.i64)),
  (52, (TI.mk 0 false 1 8 [Value.nilFunc] [] 0 0 IntKind.i64)),
  (53, (TI.mk 0 false 1 8 [Value.nilFunc] [] 0 0 IntKind.i64)),
  (54, (TI.mk 0 false 1 8 [Value.nilFunc] [] 0 0 IntKind.i64)),
  (55, (TI.mk 0 false 1 8 [Value.nilFunc] [] 0 0 IntKind.i64)),
  (56, (TI.mk 0 false 1 8 [Value.nilFunc] [] 0 0 IntKind.i64)),
  (57, (TI.mk 0 false 1 8 [Value.nilFunc] [] 0 0 IntKind.i64)),
  (58, (TI.mk 0 false 1 8 [Value.nilFunc] [] 0 0 IntKind.i64)),
  (59, (TI.mk 0 false 1 8 [Value.nilFunc] [] 0 0 IntKind.i64)),
  (60, (TI.mk 0 false 1 8 [Value.map none] [] 0 0 IntKind.i64)),
  (61, (TI.mk 0 false 1 8 [Value.nilFunc] [] 0 0 IntKind.i64)),
  (63, (TI.mk 3 true 2 16 [Value.int IntKind.i64 0, Value.int IntKind.i64 0] [(0, 1), (1, 1)] 0 1 IntKind.i64)),
  (64, (TI.mk 3 true 2 16 [Value.int IntKind.i64 0, Value.int IntKind.i64 0] [(0, 1), (1, 1)] 0 1 IntKind.i64)),
  (65, (TI.mk 0 false 1 8 [Value.nilFunc] [] 0 0 IntKind.i64)),
  (66, (TI.mk 0 false 1 8 [Value.nilFunc] [] 0 0 IntKind.i64)),
  (67, (TI.mk 0 false 1 8 [Value.nilFunc] [] 0 0 IntKind.i64)),
  (68, (TI.mk 0 false 1 8 [Value.nilFunc] [] 0 0 IntKind.i64)),
  (69, (TI.mk 7 false 1 8 [Value.pointer none] [] 99 0 IntKind.i64)),
  (70, (TI.mk 0 false 1 8 [Value.nilFunc] [] 0 0 IntKind.i64)),
  (72, (TI.mk 0 false 1 8 [Value.nilFunc] [] 0 0 IntKind.i64)),
  (73, (TI.mk 0 false 1 8 [Value.nilFunc] [] 0 0 IntKind.i64)),
  (74, (TI.mk 0 false 1 8 [Value.nilFunc] [] 0 0 IntKind.i64)),
  (75, (TI.mk 0 false 1 8 [Value.nilFunc] [] 0 0 IntKind.i64)),
  (76, (TI.mk 0 false 1 8 [Value.nilFunc] [] 0 0 IntKind.i64)),
  (77, (TI.mk 7 false 1 8 [Value.pointer none] [] 111 0 IntKind.i64)),
  (79, (TI.mk 0 false 1 8 [Value.nilFunc] [] 0 0 IntKind.i64)),
  (80, (TI.mk 0 false 1 8 [Value.nilFunc] [] 0 0 IntKind.i64)),
  (81, (TI.mk 0 false 1 8 [Value.nilFunc] [] 0 0 IntKind.i64)),
  (82, (TI.mk 7 false 1 8 [Value.pointer none] [] 86 0 IntKind.i64)),
  (83, (TI.mk 0 false 1 8 [Value.nilFunc] [] 0 0 IntKind.i64)),
  (84, (TI.mk 1 false 1 24 [Value.slice none 0 0] [] 82 0 IntKind.i64)),
  (85, (TI.mk 3 true 6 80 [Value.int IntKind.i64 0, Value.int IntKind.i64 0, Value.slice none 0 0, Value.int IntKind.i64 0, Value.int IntKind.i64 0, Value.slice none 0 0] [(0, 4), (4, 1), (5, 1)] 0 0 IntKind.i64)),
  (86, (TI.mk 3 true 6 80 [Value.int IntKind.i64 0, Value.int IntKind.i64 0, Value.slice none 0 0, Value.int IntKind.i64 0, Value.int IntKind.i64 0, Value.slice none 0 0] [(0, 4), (4, 1), (5, 1)] 0 0 IntKind.i64)),
  (87, (TI.mk 0 false 1 8 [Value.nilFunc] [] 0 0 IntKind.i64)),
  (88, (TI.mk 0 false 1 8 [Value.nilFunc] [] 0 0 IntKind.i64)),
  (89, (TI.mk 0 false 1 8 [Value.nilFunc] [] 0 0 IntKind.i64)),
  (90, (TI.mk 0 false 1 8 [Value.nilFunc] [] 0 0 IntKind.i64)),
  (91, (TI.mk 0 false 1 8 [Value.nilFunc] [] 0 0 IntKind.i64)),
  (92, (TI.mk 0 false 1 8 [Value.nilFunc] [] 0 0 IntKind.i64)),
  (93, (TI.mk 0 false 1 8 [Value.nilFunc] [] 0 0 IntKind.i64)),
  (94, (TI.mk 0 false 1 8 [Value.nilFunc] [] 0 0 IntKind.i64)),
  (95, (TI.mk 0 false 1 8 [Value.nilFunc] [] 0 0 IntKind.i64)),
  (96, (TI.mk 0 false 1 8 [Value.nilFunc] [] 0 0 IntKind.i64)),
  (97, (TI.mk 0 false 1 8 [Value.nilFunc] [] 0 0 IntKind.i64)),
  (98, (TI.mk 3 true 2 32 [Value.slice none 0 0, Value.int IntKind.i64 0] [(0, 1), (1, 1)] 0 0 IntKind.i64)),
  (99, (TI.mk 3 true 2 32 [Value.slice none 0 0, Value.int IntKind.i64 0] [(0, 1), (1, 1)] 0 0 IntKind.i64)),
  (100, (TI.mk 0 false 1 8 [Value.nilFunc] [] 0 0 IntKind.i64)),
  (101, (TI.mk 0 false 1 8 [Value.nilFunc] [] 0 0 IntKind.i64)),
  (102, (TI.mk 0 false 1 8 [Value.nilFunc] [] 0 0 IntKind.i64)),
  (103, (TI.mk 0 false 1 8 [Value.nilFunc] [] 0 0 IntKind.i64)),
  (104, (TI.mk 0 false 1 8 [Value.nilFunc] [] 0 0 IntKind.i64)),
  (105, (TI.mk 0 false 1 8 [Value.nilFunc] [] 0 0 IntKind.i64)),
  (106, (TI.mk 0 false 1 8 [Value.nilFunc] [] 0 0 IntKind.i64)),
  (107, (TI.mk 1 false 1 24 [Value.slice none 0 0] [] 3 0 IntKind.i64)),
  (108, (TI.mk 2 true 7 56 [Value.pointer none, Value.pointer none, Value.pointer none, Value.pointer none, Value.pointer none, Value.pointer none, Value.pointer none] [] 82 7 IntKind.i64)),
  (109, (TI.mk 2 true 217 1736 [Value.pointer none, Value.pointer none, Value.pointer none, Value.pointer none, Value.pointer none, Value.pointer none, Value.pointer none, Value.pointer none, Value.pointer none, Value.pointer none, Value.pointer none, Value.pointer none, Value.pointer none, Value.pointer none, Value.pointer none, Value.pointer none, Value.pointer none, Value.pointer none, Value.pointer none, Value.pointer none, Value.pointer none, Value.pointer none, Value.pointer none, Value.pointer none, Value.pointer none, Value.pointer none, Value.pointer none, Value.pointer none, Value.pointer none, Value.pointer none, Value.pointer none, Value.pointer none, Value.pointer none, Value.pointer none, Value.pointer none, Value.pointer none, Value.pointer none, Value.pointer none, Value.pointer none, Value.pointer none, Value.pointer none, Value.pointer none, Value.pointer none, Value.pointer none, Value.pointer none, Value.pointer none, Value.pointer none, Value.pointer none, Value.pointer none, Value.pointer none, Value.pointer none, Value.pointer none, Value.pointer none, Value.pointer none, Value.pointer none, Value.pointer none, Value.pointer none, Value.pointer none, Value.pointer none, Value.pointer none, Value.pointer none, Value.pointer none, Value.pointer none, Value.pointer none, Value.pointer none, Value.pointer none, Value.pointer none, Value.pointer none, Value.pointer none, Value.pointer none, Value.pointer none, Value.pointer none, Value.pointer none, Value.pointer none, Value.pointer none, Value.pointer none, Value.pointer none, Value.pointer none, Value.pointer none, Value.pointer none, Value.pointer none, Value.pointer none, Value.pointer none, Value.pointer none, Value.pointer none, Value.pointer none, Value.pointer none, Value.pointer none, Value.pointer none, Value.pointer none, Value.pointer none, Value.pointer none, Value.pointer none, Value.pointer none, Value.pointer none, Value.pointer none, Value.pointer none, Value.pointer none, Value.pointer none, Value.pointer none, Value.pointer none, Value.pointer none, Value.pointer none, Value.pointer none, Value.pointer none, Value.pointer none, Value.pointer none, Value.pointer none, Value.pointer none, Value.pointer none, Value.pointer none, Value.pointer none, Value.pointer none, Value.pointer none, Value.pointer none, Value.pointer none, Value.pointer none, Value.pointer none, Value.pointer none, Value.pointer none, Value.pointer none, Value.pointer none, Value.pointer none, Value.pointer none, Value.pointer none, Value.pointer none, Value.pointer none, Value.pointer none, Value.pointer none, Value.pointer none, Value.pointer none, Value.pointer none, Value.pointer none, Value.pointer none, Value.pointer none, Value.pointer none, Value.pointer none, Value.pointer none, Value.pointer none, Value.pointer none, Value.pointer none, Value.pointer none, Value.pointer none, Value.pointer none, Value.pointer none, Value.pointer none, Value.pointer none, Value.pointer none, Value.pointer none, Value.pointer none, Value.pointer none, Value.pointer none, Value.pointer none, Value.pointer none, Value.pointer none, Value.pointer none, Value.pointer none, Value.pointer none, Value.pointer none, Value.pointer none, Value.pointer none, Value.pointer none, Value.pointer none, Value.pointer none, Value.pointer none, Value.pointer none, Value.pointer none, Value.pointer none, Value.pointer none, Value.pointer none, Value.pointer none, Value.pointer none, Value.pointer none, Value.pointer none, Value.pointer none, Value.pointer none, Value.pointer none, Value.pointer none, Value.pointer none, Value.pointer none, Value.pointer none, Value.pointer none, Value.pointer none, Value.pointer none, Value.pointer none, Value.pointer none, Value.pointer none, Value.pointer none, Value.pointer none, Value.pointer none, Value.pointer none, Value.pointer none, Value.pointer none, Value.pointer none, Value.pointer none, Value.pointer none, Value.pointer none, Value.pointer none, Value.pointer none, Value.pointer none, Value.pointer none, Value.pointer none, Value.pointer none, Value.pointer none, Value.pointer none, Value.pointer none, Value.pointer none, Value.pointer none, Value.pointer none, Value.pointer none, Value.pointer none, Value.pointer none, Value.pointer none, Value.pointer none, Value.pointer none, Value.pointer none, Value.pointer none] [] 108 31 IntKind.i64)),
  (110, (TI.mk 3 true 219 1784 [Value.slice none 0 0, Value.slice none 0 0, Value.pointer none, Value.pointer none, Value.pointer none, Value.pointer none, Value.pointer none, Value.pointer none, Value.pointer none, Value.pointer none, Value.pointer none, Value.pointer none, Value.pointer none, Value.pointer none, Value.pointer none, Value.pointer none, Value.pointer none, Value.pointer none, Value.pointer none, Value.pointer none, Value.pointer none, Value.pointer none, Value.pointer none, Value.pointer none, Value.pointer none, Value.pointer none, Value.pointer none, Value.pointer none, Value.pointer none, Value.pointer none, Value.pointer none, Value.pointer none, Value.pointer none, Value.pointer none, Value.pointer none, Value.pointer none, Value.pointer none, Value.pointer none, Value.pointer none, Value.pointer none, Value.pointer none, Value.pointer none, Value.pointer none, Value.pointer none, Value.pointer none, Value.pointer none, Value.pointer none, Value.pointer none, Value.pointer none, Value.pointer none, Value.pointer none, Value.pointer none, Value.pointer none, Value.pointer none, Value.pointer none, Value.pointer none, Value.pointer none, Value.pointer none, Value.pointer none, Value.pointer none, Value.pointer none, Value.pointer none, Value.pointer none, Value.pointer none, Value.pointer none, Value.pointer none, Value.pointer none, Value.pointer none, Value.pointer none, Value.pointer none, Value.pointer none, Value.pointer none, Value.pointer none, Value.pointer none, Value.pointer none, Value.pointer none, Value.pointer none, Value.pointer none, Value.pointer none, Value.pointer none, Value.pointer none, Value.pointer none, Value.pointer none, Value.pointer none, Value.pointer none, Value.pointer none, Value.pointer none, Value.pointer none, Value.pointer none, Value.pointer none, Value.pointer none, Value.pointer none, Value.pointer none, Value.pointer none, Value.pointer none, Value.pointer none, Value.pointer none, Value.pointer none, Value.pointer none, Value.pointer none, Value.pointer none, Value.pointer none, Value.pointer none, Value.pointer none, Value.pointer none, Value.pointer none, Value.pointer none, Value.pointer none, Value.pointer none, Value.pointer none, Value.pointer none, Value.pointer none, Value.pointer none, Value.pointer none, Value.pointer none, Value.pointer none, Value.pointer none, Value.pointer none, Value.pointer none, Value.pointer none, Value.pointer none, Value.pointer none, Value.pointer none, Value.pointer none, Value.pointer none, Value.pointer none, Value.pointer none, Value.pointer none, Value.pointer none, Value.pointer none, Value.pointer none, Value.pointer none, Value.pointer none, Value.pointer none, Value.pointer none, Value.pointer none, Value.pointer none, Value.pointer none, Value.pointer none, Value.pointer none, Value.pointer none, Value.pointer none, Value.pointer none, Value.pointer none, Value.pointer none, Value.pointer none, Value.pointer none, Value.pointer none, Value.pointer none, Value.pointer none, Value.pointer none, Value.pointer none, Value.pointer none, Value.pointer none, Value.pointer none, Value.pointer none, Value.pointer none, Value.pointer none, Value.pointer none, Value.pointer none, Value.pointer none, Value.pointer none, Value.pointer none, Value.pointer none, Value.pointer none, Value.pointer none, Value.pointer none, Value.pointer none, Value.pointer none, Value.pointer none, Value.pointer none, Value.pointer none, Value.pointer none, Value.pointer none, Value.pointer none, Value.pointer none, Value.pointer none, Value.pointer none, Value.pointer none, Value.pointer none, Value.pointer none, Value.pointer none, Value.pointer none, Value.pointer none, Value.pointer none, Value.pointer none, Value.pointer none, Value.pointer none, Value.pointer none, Value.pointer none, Value.pointer none, Value.pointer none, Value.pointer none, Value.pointer none, Value.pointer none, Value.pointer none, Value.pointer none, Value.pointer none, Value.pointer none, Value.pointer none, Value.pointer none, Value.pointer none, Value.pointer none, Value.pointer none, Value.pointer none, Value.pointer none, Value.pointer none, Value.pointer none, Value.pointer none, Value.pointer none, Value.pointer none, Value.pointer none, Value.pointer none, Value.pointer none, Value.pointer none, Value.pointer none, Value.pointer none, Value.pointer none, Value.pointer none] [(0, 1), (1, 1), (2, 217)] 0 0 IntKind.i64)),
  (111, (TI.mk 3 true 219 1784 [Value.slice none 0 0, Value.slice none 0 0, Value.pointer none, Value.pointer none, Value.pointer none, Value.pointer none, Value.pointer none, Value.pointer none, Value.pointer none, Value.pointer none, Value.pointer none, Value.pointer none, Value.pointer none, Value.pointer none, Value.pointer none, Value.pointer none, Value.pointer none, Value.pointer none, Value.pointer none, Value.pointer none, Value.pointer none, Value.pointer none, Value.pointer none, Value.pointer none, Value.pointer none, Value.pointer none, Value.pointer none, Value.pointer none, Value.pointer none, Value.pointer none, Value.pointer none, Value.pointer none, Value.pointer none, Value.pointer none, Value.pointer none, Value.pointer none, Value.pointer none, Value.pointer none, Value.pointer none, Value.pointer none, Value.pointer none, Value.pointer none, Value.pointer none, Value.pointer none, Value.pointer none, Value.pointer none, Value.pointer none, Value.pointer none, Value.pointer none, Value.pointer none, Value.pointer none, Value.pointer none, Value.pointer none, Value.pointer none, Value.pointer none, Value.pointer none, Value.pointer none, Value.pointer none, Value.pointer none, Value.pointer none, Value.pointer none, Value.pointer none, Value.pointer none, Value.pointer none, Value.pointer none, Value.pointer none, Value.pointer none, Value.pointer none, Value.pointer none, Value.pointer none, Value.pointer none, Value.pointer none, Value.pointer none, Value.pointer none, Value.pointer none, Value.pointer none, Value.pointer none, Value.pointer none, Value.pointer none, Value.pointer none, Value.pointer none, Value.pointer none, Value.pointer none, Value.pointer none, Value.pointer none, Value.pointer none, Value.pointer none, Value.pointer none, Value.pointer none, Value.pointer none, Value.pointer none, Value.pointer none, Value.pointer none, Value.pointer none, Value.pointer none, Value.pointer none, Value.pointer none, Value.pointer none, Value.pointer none, Value.pointer none, Value.pointer none, Value.pointer none, Value.pointer none, Value.pointer none, Value.pointer none, Value.pointer none, Value.pointer none, Value.pointer none, Value.pointer none, Value.pointer none, Value.pointer none, Value.pointer none, Value.pointer none, Value.pointer none, Value.pointer none, Value.pointer none, Value.pointer none, Value.pointer none, Value.pointer none, Value.pointer none, Value.pointer none, Value.pointer none, Value.pointer none, Value.pointer none, Value.pointer none, Value.pointer none, Value.pointer none, Value.pointer none, Value.pointer none, Value.pointer none, Value.pointer none, Value.pointer none, Value.pointer none, Value.pointer none, Value.pointer none, Value.pointer none, Value.pointer none, Value.pointer none, Value.pointer none, Value.pointer none, Value.pointer none, Value.pointer none, Value.pointer none, Value.pointer none, Value.pointer none, Value.pointer none, Value.pointer none, Value.pointer none, Value.pointer none, Value.pointer none, Value.pointer none, Value.pointer none, Value.pointer none, Value.pointer none, Value.pointer none, Value.pointer none, Value.pointer none, Value.pointer none, Value.pointer none, Value.pointer none, Value.pointer none, Value.pointer none, Value.pointer none, Value.pointer none, Value.pointer none, Value.pointer none, Value.pointer none, Value.pointer none, Value.pointer none, Value.pointer none, Value.pointer none, Value.pointer none, Value.pointer none, Value.pointer none, Value.pointer none, Value.pointer none, Value.pointer none, Value.pointer none, Value.pointer none, Value.pointer none, Value.pointer none, Value.pointer none, Value.pointer none, Value.pointer none, Value.pointer none, Value.pointer none, Value.pointer none, Value.pointer none, Value.pointer none, Value.pointer none, Value.pointer none, Value.pointer none, Value.pointer none, Value.pointer none, Value.pointer none, Value.pointer none, Value.pointer none, Value.pointer none, Value.pointer none, Value.pointer none, Value.pointer none, Value.pointer none, Value.pointer none, Value.pointer none, Value.pointer none, Value.pointer none, Value.pointer none, Value.pointer none, Value.pointer none, Value.pointer none, Value.pointer none, Value.pointer none, Value.pointer none, Value.pointer none, Value.pointer none, Value.pointer none, Value.pointer none, Value.pointer none, Value.pointer none] [(0, 1), (1, 1), (2, 217)] 0 0 IntKind.i64)),
  (112, (TI.mk 0 false 1 8 [Value.nilFunc] [] 0 0 IntKind.i64)),
  (113, (TI.mk 0 false 1 8 [Value.nilFunc] [] 0 0 IntKind.i64)),
  (114, (TI.mk 0 false 1 8 [Value.nilFunc] [] 0 0 IntKind.i64)),
  (115, (TI.mk 0 false 1 8 [Value.nilFunc] [] 0 0 IntKind.i64)),
  (116, (TI.mk 0 false 1 8 [Value.nilFunc] [] 0 0 IntKind.i64)),
  (117, (TI.mk 1 false 1 24 [Value.slice none 0 0] [] 4 0 IntKind.i64)),
  (118, (TI.mk 0 false 1 8 [Value.nilFunc] [] 0 0 IntKind.i64)),
  (119, (TI.mk 0 false 1 8 [Value.nilFunc] [] 0 0 IntKind.i64)),
  (120, (TI.mk 0 false 1 8 [Value.nilFunc] [] 0 0 IntKind.i64)),
  (121, (TI.mk 0 false 1 8 [Value.nilFunc] [] 0 0 IntKind.i64)),
  (122, (TI.mk 6 false 1 8 [Value.int IntKind.u64 0] [] 0 0 IntKind.u64)),
  (123, (TI.mk 0 false 1 8 [Value.nilFunc] [] 0 0 IntKind.i64)),
  (124, (TI.mk 0 false 1 8 [Value.nilFunc] [] 0 0 IntKind.i64)),
  (125, (TI.mk 6 false 1 8 [Value.int IntKind.i64 0] [] 0 0 IntKind.i64)),
  (127, (TI.mk 0 false 1 8 [Value.nilFunc] [] 0 0 IntKind.i64)),
  (128, (TI.mk 0 false 1 8 [Value.nilFunc] [] 0 0 IntKind.i64)),
  (129, (TI.mk 0 false 1 8 [Value.nilFunc] [] 0 0 IntKind.i64)),
  (130, (TI.mk 0 false 1 8 [Value.nilFunc] [] 0 0 IntKind.i64)),
  (131, (TI.mk 0 false 1 8 [Value.nilFunc] [] 0 0 IntKind.i64)),
  (132, (TI.mk 6 false 1 4 [Value.int IntKind.u32 0] [] 0 0 IntKind.u32)),
  (133, (TI.mk 0 false 1 8 [Value.nilFunc] [] 0 0 IntKind.i64)),
  (134, (TI.mk 6 false 1 8 [Value.int IntKind.u64 0] [] 0 0 IntKind.u64)),
  (135, (TI.mk 0 false 1 8 [Value.nilFunc] [] 0 0 IntKind.i64)),
  (136, (TI.mk 6 false 1 8 [Value.int IntKind.u64 0] [] 0 0 IntKind.u64)),
  (137, (TI.mk 0 false 1 8 [Value.nilFunc] [] 0 0 IntKind.i64)),
  (138, (TI.mk 0 false 1 8 [Value.nilFunc] [] 0 0 IntKind.i64)),
  (139, (TI.mk 0 false 1 8 [Value.nilFunc] [] 0 0 IntKind.i64)),
  (140, (TI.mk 7 false 1 8 [Value.pointer none] [] 3 0 IntKind.i64)),
  (141, (TI.mk 0 false 1 8 [Value.nilFunc] [] 0 0 IntKind.i64)),
  (142, (TI.mk 7 false 1 8 [Value.pointer none] [] 136 0 IntKind.i64)),
  (144, (TI.mk 0 false 1 8 [Value.nilFunc] [] 0 0 IntKind.i64)),
  (145, (TI.mk 0 false 1 8 [Value.nilFunc] [] 0 0 IntKind.i64)),
  (146, (TI.mk 3 true 4 40 [Value.pointer none, Value.pointer none, Value.pointer none, Value.string (ByteArray.mk (Array.mk []))] [(0, 1), (1, 1), (2, 1), (3, 1)] 0 0 IntKind.i64)),
  (147, (TI.mk 3 true 4 40 [Value.pointer none, Value.pointer none, Value.pointer none, Value.string (ByteArray.mk (Array.mk []))] [(0, 1), (1, 1), (2, 1), (3, 1)] 0 0 IntKind.i64)),
  (148, (TI.mk 2 true 0 0 [] [] 16 0 IntKind.i64)),
  (151, (TI.mk 6 false 1 1 [Value.int IntKind.u8 0] [] 0 0 IntKind.u8)),
  (152, (TI.mk 6 false 1 1 [Value.int IntKind.u8 0] [] 0 0 IntKind.u8)),
  (153, (TI.mk 0 false 1 8 [Value.nilFunc] [] 0 0 IntKind.i64)),
  (154, (TI.mk 7 false 1 8 [Value.pointer none] [] 5 0 IntKind.i64)),
  (155, (TI.mk 6 false 1 4 [Value.int IntKind.i32 0] [] 0 0 IntKind.i32)),
  (156, (TI.mk 6 false 1 4 [Value.int IntKind.i32 0] [] 0 0 IntKind.i32)),
  (157, (TI.mk 3 true 11 48 [Value.int IntKind.u64 0, Value.int IntKind.u64 0, Value.int IntKind.u32 0, Value.int IntKind.u8 0, Value.int IntKind.u8 0, Value.int IntKind.u8 0, Value.int IntKind.u8 0, Value.nilFunc, Value.pointer none, Value.int IntKind.i32 0, Value.int IntKind.i32 0] [(0, 1), (1, 1), (2, 1), (3, 1), (4, 1), (5, 1), (6, 1), (7, 1), (8, 1), (9, 1), (10, 1)] 0 0 IntKind.i64)),
  (158, (TI.mk 3 true 11 48 [Value.int IntKind.u64 0, Value.int IntKind.u64 0, Value.int IntKind.u32 0, Value.int IntKind.u8 0, Value.int IntKind.u8 0, Value.int IntKind.u8 0, Value.int IntKind.u8 0, Value.nilFunc, Value.pointer none, Value.int IntKind.i32 0, Value.int IntKind.i32 0] [(0, 1), (1, 1), (2, 1), (3, 1), (4, 1), (5, 1), (6, 1), (7, 1), (8, 1), (9, 1), (10, 1)] 0 0 IntKind.i64)),
  (159, (TI.mk 0 false 1 8 [Value.nilFunc] [] 0 0 IntKind.i64)),
  (160, (TI.mk 0 false 1 8 [Value.pointer none] [] 0 0 IntKind.i64)),
  (161, (TI.mk 3 true 2 16 [Value.int IntKind.i64 0, Value.int IntKind.i64 0] [(0, 1), (1, 1)] 0 1 IntKind.i64)),
  (162, (TI.mk 3 true 2 16 [Value.int IntKind.i64 0, Value.int IntKind.i64 0] [(0, 1), (1, 1)] 0 1 IntKind.i64))]
theorem tt_ok : tt.map (fun p => tiOf Try.prog p.1) = tt.map fun p => some p.2 := by kernel_rfl
def TyT : TT := tblT tt
theorem TyT_ok : TOk Try.prog TyT := tbl_ok tt_ok
theorem TyT1 : TyT 1 = some (TI.mk 0 false 1 8 [Value.nilFunc] [] 0 0 IntKind.i64) := by rfl
theorem TyT2 : TyT 2 = some (TI.mk 6 false 1 8 [Value.int IntKind.i64 0] [] 0 0 IntKind.i64) := by rfl
theorem TyT3 : TyT 3 = some (TI.mk 6 false 1 8 [Value.int IntKind.i64 0] [] 0 0 IntKind.i64) := by rfl
theorem TyT4 : TyT 4 = some (TI.mk 5 false 1 1 [Value.bool false] [] 0 0 IntKind.i64) := by rfl
theorem TyT5 : TyT 5 = some (TI.mk 6 false 1 1 [Value.int IntKind.u8 0] [] 0 0 IntKind.u8) := by rfl
theorem TyT6 : TyT 6 = some (TI.mk 6 false 1 1 [Value.int IntKind.u8 0] [] 0 0 IntKind.u8) := by rfl
theorem TyT7 : TyT 7 = some (TI.mk 3 true 4 24 [Value.int IntKind.i64 0, Value.int IntKind.i64 0, Value.bool false, Value.int IntKind.u8 0] [(0, 1), (1, 1), (2, 1), (3, 1)] 0 0 IntKind.i64) := by rfl
theorem TyT8 : TyT 8 = some (TI.mk 3 true 4 24 [Value.int IntKind.i64 0, Value.int IntKind.i64 0, Value.bool false, Value.int IntKind.u8 0] [(0, 1), (1, 1), (2, 1), (3, 1)] 0 0 IntKind.i64) := by rfl
theorem TyT9 : TyT 9 = some (TI.mk 4 false 1 16 [Value.string (ByteArray.mk (Array.mk []))] [] 0 0 IntKind.i64) := by rfl
theorem TyT10 : TyT 10 = some (TI.mk 4 false 1 16 [Value.string (ByteArray.mk (Array.mk []))] [] 0 0 IntKind.i64) := by rfl
theorem TyT11 : TyT 11 = some (TI.mk 4 false 1 16 [Value.string (ByteArray.mk (Array.mk []))] [] 0 0 IntKind.i64) := by rfl
theorem TyT12 : TyT 12 = some (TI.mk 6 false 1 8 [Value.int IntKind.u64 0] [] 0 0 IntKind.u64) := by rfl
theorem TyT13 : TyT 13 = some (TI.mk 3 true 2 24 [Value.string (ByteArray.mk (Array.mk [])), Value.int IntKind.u64 0] [(0, 1), (1, 1)] 0 0 IntKind.i64) := by rfl
theorem TyT14 : TyT 14 = some (TI.mk 3 true 2 24 [Value.string (ByteArray.mk (Array.mk [])), Value.int IntKind.u64 0] [(0, 1), (1, 1)] 0 0 IntKind.i64) := by rfl
theorem TyT15 : TyT 15 = some (TI.mk 7 false 1 8 [Value.pointer none] [] 147 0 IntKind.i64) := by rfl
theorem TyT16 : TyT 16 = some (TI.mk 7 false 1 8 [Value.pointer none] [] 150 0 IntKind.i64) := by rfl
theorem TyT17 : TyT 17 = some (TI.mk 7 false 1 8 [Value.pointer none] [] 158 0 IntKind.i64) := by rfl
theorem TyT18 : TyT 18 = some (TI.mk 3 true 1 8 [Value.pointer none] [(0, 1)] 0 0 IntKind.i64) := by rfl
theorem TyT19 : TyT 19 = some (TI.mk 3 true 1 8 [Value.pointer none] [(0, 1)] 0 0 IntKind.i64) := by rfl
theorem TyT20 : TyT 20 = some (TI.mk 8 false 1 16 [Value.nilIface] [] 0 0 IntKind.i64) := by rfl
theorem TyT21 : TyT 21 = some (TI.mk 6 false 1 4 [Value.int IntKind.i32 0] [] 0 0 IntKind.i32) := by rfl
theorem TyT22 : TyT 22 = some (TI.mk 1 false 1 24 [Value.slice none 0 0] [] 26 0 IntKind.i64) := by rfl
theorem TyT23 : TyT 23 = some (TI.mk 3 true 2 32 [Value.int IntKind.i64 0, Value.slice none 0 0] [(0, 1), (1, 1)] 0 0 IntKind.i64) := by rfl
theorem TyT24 : TyT 24 = some (TI.mk 3 true 2 32 [Value.int IntKind.i64 0, Value.slice none 0 0] [(0, 1), (1, 1)] 0 0 IntKind.i64) := by rfl
theorem TyT25 : TyT 25 = some (TI.mk 3 true 3 24 [Value.int IntKind.i64 0, Value.int IntKind.i64 0, Value.int IntKind.i64 0] [(0, 1), (1, 1), (2, 1)] 0 0 IntKind.i64) := by rfl
theorem TyT26 : TyT 26 = some (TI.mk 3 true 3 24 [Value.int IntKind.i64 0, Value.int IntKind.i64 0, Value.int IntKind.i64 0] [(0, 1), (1, 1), (2, 1)] 0 0 IntKind.i64) := by rfl
theorem TyT27 : TyT 27 = some (TI.mk 0 false 1 8 [Value.nilFunc] [] 0 0 IntKind.i64) := by rfl
theorem TyT28 : TyT 28 = some (TI.mk 1 false 1 24 [Value.slice none 0 0] [] 34 0 IntKind.i64) := by rfl
theorem TyT29 : TyT 29 = some (TI.mk 3 true 2 32 [Value.int IntKind.i64 0, Value.slice none 0 0] [(0, 1), (1, 1)] 0 0 IntKind.i64) := by rfl
theorem TyT30 : TyT 30 = some (TI.mk 3 true 2 32 [Value.int IntKind.i64 0, Value.slice none 0 0] [(0, 1), (1, 1)] 0 0 IntKind.i64) := by rfl
theorem TyT32 : TyT 32 = some (TI.mk 0 false 1 8 [Value.nilFunc] [] 0 0 IntKind.i64) := by rfl
theorem TyT33 : TyT 33 = some (TI.mk 0 false 1 8 [Value.nilFunc] [] 0 0 IntKind.i64) := by rfl
theorem TyT34 : TyT 34 = some (TI.mk 3 true 3 24 [Value.int IntKind.i64 0, Value.int IntKind.i64 0, Value.int IntKind.i64 0] [(0, 1), (1, 1), (2, 1)] 0 0 IntKind.i64) := by rfl
theorem TyT35 : TyT 35 = some (TI.mk 0 false 1 8 [Value.nilFunc] [] 0 0 IntKind.i64) := by rfl
theorem TyT36 : TyT 36 = some (TI.mk 0 false 1 8 [Value.nilFunc] [] 0 0 IntKind.i64) := by rfl
theorem TyT37 : TyT 37 = some (TI.mk 0 false 1 8 [Value.nilFunc] [] 0 0 IntKind.i64) := by rfl
theorem TyT38 : TyT 38 = some (TI.mk 0 false 1 8 [Value.nilFunc] [] 0 0 IntKind.i64) := by rfl
theorem TyT39 : TyT 39 = some (TI.mk 1 false 1 24 [Value.slice none 0 0] [] 5 0 IntKind.i64) := by rfl
theorem TyT40 : TyT 40 = some (TI.mk 1 false 1 24 [Value.slice none 0 0] [] 3 0 IntKind.i64) := by rfl
theorem TyT41 : TyT 41 = some (TI.mk 1 false 1 24 [Value.slice none 0 0] [] 43 0 IntKind.i64) := by rfl
theorem TyT42 : TyT 42 = some (TI.mk 3 true 4 48 [Value.int IntKind.i64 0, Value.int IntKind.i64 0, Value.slice none 0 0, Value.int IntKind.i64 0] [(0, 1), (1, 1), (2, 1), (3, 1)] 0 0 IntKind.i64) := by rfl
theorem TyT43 : TyT 43 = some (TI.mk 3 true 4 48 [Value.int IntKind.i64 0, Value.int IntKind.i64 0, Value.slice none 0 0, Value.int IntKind.i64 0] [(0, 1), (1, 1), (2, 1), (3, 1)] 0 0 IntKind.i64) := by rfl
theorem TyT45 : TyT 45 = some (TI.mk 0 false 1 8 [Value.nilFunc] [] 0 0 IntKind.i64) := by rfl
theorem TyT47 : TyT 47 = some (TI.mk 0 false 1 8 [Value.nilFunc] [] 0 0 IntKind.i64) := by rfl
theorem TyT48 : TyT 48 = some (TI.mk 0 false 1 8 [Value.nilFunc] [] 0 0 IntKind.i64) := by rfl
theorem TyT49 : TyT 49 = some (TI.mk 0 false 1 8 [Value.nilFunc] [] 0 0 IntKind.i64) := by rfl
theorem TyT50 : TyT 50 = some (TI.mk 0 false 1 8 [Value.nilFunc] [] 0 0 IntKind.i64) := by rfl
theorem TyT51 : TyT 51 = some (TI.mk 0 false 1 8 [Value.nilFunc] [] 0 0 IntKind.i64) := by rfl
theorem TyT52 : TyT 52 = some (TI.mk 0 false 1 8 [Value.nilFunc] [] 0 0 IntKind.i64) := by rfl
theorem TyT53 : TyT 53 = some (TI.mk 0 false 1 8 [Value.nilFunc] [] 0 0 IntKind.i64) := by rfl
theorem TyT54 : TyT 54 = some (TI.mk 0 false 1 8 [Value.nilFunc] [] 0 0 IntKind.i64) := by rfl
theorem TyT55 : TyT 55 = some (TI.mk 0 false 1 8 [Value.nilFunc] [] 0 0 IntKind.i64) := by rfl
theorem TyT56 : TyT 56 = some (TI.mk 0 false 1 8 [Value.nilFunc] [] 0 0 IntKind.i64) := by rfl
theorem TyT57 : TyT 57 = some (TI.mk 0 false 1 8 [Value.nilFunc] [] 0 0 IntKind.i64) := by rfl
theorem TyT58 : TyT 58 = some (TI.mk 0 false 1 8 [Value.nilFunc] [] 0 0 IntKind.i64) := by rfl
theorem TyT59 : TyT 59 = some (TI.mk 0 false 1 8 [Value.nilFunc] [] 0 0 IntKind.i64) := by rfl
theorem TyT60 : TyT 60 = some (TI.mk 0 false 1 8 [Value.map none] [] 0 0 IntKind.i64) := by rfl
theorem TyT61 : TyT 61 = some (TI.mk 0 false 1 8 [Value.nilFunc] [] 0 0 IntKind.i64) := by rfl
theorem TyT63 : TyT 63 = some (TI.mk 3 true 2 16 [Value.int IntKind.i64 0, Value.int IntKind.i64 0] [(0, 1), (1, 1)] 0 1 IntKind.i64) := by rfl
theorem TyT64 : TyT 64 = some (TI.mk 3 true 2 16 [Value.int IntKind.i64 0, Value.int IntKind.i64 0] [(0, 1), (1, 1)] 0 1 IntKind.i64) := by rfl
theorem TyT65 : TyT 65 = some (TI.mk 0 false 1 8 [Value.nilFunc] [] 0 0 IntKind.i64) := by rfl
theorem TyT66 : TyT 66 = some (TI.mk 0 false 1 8 [Value.nilFunc] [] 0 0 IntKind.i64) := by rfl
theorem TyT67 : TyT 67 = some (TI.mk 0 false 1 8 [Value.nilFunc] [] 0 0 IntKind.i64) := by rfl
theorem TyT68 : TyT 68 = some (TI.mk 0 false 1 8 [Value.nilFunc] [] 0 0 IntKind.i64) := by rfl
theorem TyT69 : TyT 69 = some (TI.mk 7 false 1 8 [Value.pointer none] [] 99 0 IntKind.i64) := by rfl
theorem TyT70 : TyT 70 = some (TI.mk 0 false 1 8 [Value.nilFunc] [] 0 0 IntKind.i64) := by rfl
theorem TyT72 : TyT 72 = some (TI.mk 0 false 1 8 [Value.nilFunc] [] 0 0 IntKind.i64) := by rfl
theorem TyT73 : TyT 73 = some (TI.mk 0 false 1 8 [Value.nilFunc] [] 0 0 IntKind.i64) := by rfl
theorem TyT74 : TyT 74 = some (TI.mk 0 false 1 8 [Value.nilFunc] [] 0 0 IntKind.i64) := by rfl
theorem TyT75 : TyT 75 = some (TI.mk 0 false 1 8 [Value.nilFunc] [] 0 0 IntKind.i64) := by rfl
theorem TyT76 : TyT 76 = some (TI.mk 0 false 1 8 [Value.nilFunc] [] 0 0 IntKind.i64) := by rfl
theorem TyT77 : TyT 77 = some (TI.mk 7 false 1 8 [Value.pointer none] [] 111 0 IntKind.i64) := by rfl
theorem TyT79 : TyT 79 = some (TI.mk 0 false 1 8 [Value.nilFunc] [] 0 0 IntKind.i64) := by rfl
theorem TyT80 : TyT 80 = some (TI.mk 0 false 1 8 [Value.nilFunc] [] 0 0 IntKind.i64) := by rfl
theorem TyT81 : TyT 81 = some (TI.mk 0 false 1 8 [Value.nilFunc] [] 0 0 IntKind.i64) := by rfl
theorem TyT82 : TyT 82 = some (TI.mk 7 false 1 8 [Value.pointer none] [] 86 0 IntKind.i64) := by rfl
theorem TyT83 : TyT 83 = some (TI.mk 0 false 1 8 [Value.nilFunc] [] 0 0 IntKind.i64) := by rfl
theorem TyT84 : TyT 84 = some (TI.mk 1 false 1 24 [Value.slice none 0 0] [] 82 0 IntKind.i64) := by rfl
theorem TyT85 : TyT 85 = some (TI.mk 3 true 6 80 [Value.int IntKind.i64 0, Value.int IntKind.i64 0, Value.slice none 0 0, Value.int IntKind.i64 0, Value.int IntKind.i64 0, Value.slice none 0 0] [(0, 4), (4, 1), (5, 1)] 0 0 IntKind.i64) := by rfl
theorem TyT86 : TyT 86 = some (TI.mk 3 true 6 80 [Value.int IntKind.i64 0, Value.int IntKind.i64 0, Value.slice none 0 0, Value.int IntKind.i64 0, Value.int IntKind.i64 0, Value.slice none 0 0] [(0, 4), (4, 1), (5, 1)] 0 0 IntKind.i64) := by rfl
theorem TyT87 : TyT 87 = some (TI.mk 0 false 1 8 [Value.nilFunc] [] 0 0 IntKind.i64) := by rfl
theorem TyT88 : TyT 88 = some (TI.mk 0 false 1 8 [Value.nilFunc] [] 0 0 IntKind.i64) := by rfl
theorem TyT89 : TyT 89 = some (TI.mk 0 false 1 8 [Value.nilFunc] [] 0 0 IntKind.i64) := by rfl
theorem TyT90 : TyT 90 = some (TI.mk 0 false 1 8 [Value.nilFunc] [] 0 0 IntKind.i64) := by rfl
theorem TyT91 : TyT 91 = some (TI.mk 0 false 1 8 [Value.nilFunc] [] 0 0 IntKind.i64) := by rfl
theorem TyT92 : TyT 92 = some (TI.mk 0 false 1 8 [Value.nilFunc] [] 0 0 IntKind.i64) := by rfl
theorem TyT93 : TyT 93 = some (TI.mk 0 false 1 8 [Value.nilFunc] [] 0 0 IntKind.i64) := by rfl
theorem TyT94 : TyT 94 = some (TI.mk 0 false 1 8 [Value.nilFunc] [] 0 0 IntKind.i64) := by rfl
theorem TyT95 : TyT 95 = some (TI.mk 0 false 1 8 [Value.nilFunc] [] 0 0 IntKind.i64) := by rfl
theorem TyT96 : TyT 96 = some (TI.mk 0 false 1 8 [Value.nilFunc] [] 0 0 IntKind.i64) := by rfl
theorem TyT97 : TyT 97 = some (TI.mk 0 false 1 8 [Value.nilFunc] [] 0 0 IntKind.i64) := by rfl
theorem TyT98 : TyT 98 = some (TI.mk 3 true 2 32 [Value.slice none 0 0, Value.int IntKind.i64 0] [(0, 1), (1, 1)] 0 0 IntKind.i64) := by rfl
theorem TyT99 : TyT 99 = some (TI.mk 3 true 2 32 [Value.slice none 0 0, Value.int IntKind.i64 0] [(0, 1), (1, 1)] 0 0 IntKind.i64) := by rfl
theorem TyT100 : TyT 100 = some (TI.mk 0 false 1 8 [Value.nilFunc] [] 0 0 IntKind.i64) := by rfl
theorem TyT101 : TyT 101 = some (TI.mk 0 false 1 8 [Value.nilFunc] [] 0 0 IntKind.i64) := by rfl
theorem TyT102 : TyT 102 = some (TI.mk 0 false 1 8 [Value.nilFunc] [] 0 0 IntKind.i64) := by rfl
theorem TyT103 : TyT 103 = some (TI.mk 0 false 1 8 [Value.nilFunc] [] 0 0 IntKind.i64) := by rfl
theorem TyT104 : TyT 104 = some (TI.mk 0 false 1 8 [Value.nilFunc] [] 0 0 IntKind.i64) := by rfl
theorem TyT105 : TyT 105 = some (TI.mk 0 false 1 8 [Value.nilFunc] [] 0 0 IntKind.i64) := by rfl
theorem TyT106 : TyT 106 = some (TI.mk 0 false 1 8 [Value.nilFunc] [] 0 0 IntKind.i64) := by rfl
theorem TyT107 : TyT 107 = some (TI.mk 1 false 1 24 [Value.slice none 0 0] [] 3 0 IntKind.i64) := by rfl
theorem TyT108 : TyT 108 = some (TI.mk 2 true 7 56 [Value.pointer none, Value.pointer none, Value.pointer none, Value.pointer none, Value.pointer none, Value.pointer none, Value.pointer none] [] 82 7 IntKind.i64) := by rfl
theorem TyT109 : TyT 109 = some (TI.mk 2 true 217 1736 [Value.pointer none, Value.pointer none, Value.pointer none, Value.pointer none, Value.pointer none, Value.pointer none, Value.pointer none, Value.pointer none, Value.pointer none, Value.pointer none, Value.pointer none, Value.pointer none, Value.pointer none, Value.pointer none, Value.pointer none, Value.pointer none, Value.pointer none, Value.pointer none, Value.pointer none, Value.pointer none, Value.pointer none, Value.pointer none, Value.pointer none, Value.pointer none, Value.pointer none, Value.pointer none, Value.pointer none, Value.pointer none, Value.pointer none, Value.pointer none, Value.pointer none, Value.pointer none, Value.pointer none, Value.pointer none, Value.pointer none, Value.pointer none, Value.pointer none, Value.pointer none, Value.pointer none, Value.pointer none, Value.pointer none, Value.pointer none, Value.pointer none, Value.pointer none, Value.pointer none, Value.pointer none, Value.pointer none, Value.pointer none, Value.pointer none, Value.pointer none, Value.pointer none, Value.pointer none, Value.pointer none, Value.pointer none, Value.pointer none, Value.pointer none, Value.pointer none, Value.pointer none, Value.pointer none, Value.pointer none, Value.pointer none, Value.pointer none, Value.pointer none, Value.pointer none, Value.pointer none, Value.pointer none, Value.pointer none, Value.pointer none, Value.pointer none, Value.pointer none, Value.pointer none, Value.pointer none, Value.pointer none, Value.pointer none, Value.pointer none, Value.pointer none, Value.pointer none, Value.pointer none, Value.pointer none, Value.pointer none, Value.pointer none, Value.pointer none, Value.pointer none, Value.pointer none, Value.pointer none, Value.pointer none, Value.pointer none, Value.pointer none, Value.pointer none, Value.pointer none, Value.pointer none, Value.pointer none, Value.pointer none, Value.pointer none, Value.pointer none, Value.pointer none, Value.pointer none, Value.pointer none, Value.pointer none, Value.pointer none, Value.pointer none, Value.pointer none, Value.pointer none, Value.pointer none, Value.pointer none, Value.pointer none, Value.pointer none, Value.pointer none, Value.pointer none, Value.pointer none, Value.pointer none, Value.pointer none, Value.pointer none, Value.pointer none, Value.pointer none, Value.pointer none, Value.pointer none, Value.pointer none, Value.pointer none, Value.pointer none, Value.pointer none, Value.pointer none, Value.pointer none, Value.pointer none, Value.pointer none, Value.pointer none, Value.pointer none, Value.pointer none, Value.pointer none, Value.pointer none, Value.pointer none, Value.pointer none, Value.pointer none, Value.pointer none, Value.pointer none, Value.pointer none, Value.pointer none, Value.pointer none, Value.pointer none, Value.pointer none, Value.pointer none, Value.pointer none, Value.pointer none, Value.pointer none, Value.pointer none, Value.pointer none, Value.pointer none, Value.pointer none, Value.pointer none, Value.pointer none, Value.pointer none, Value.pointer none, Value.pointer none, Value.pointer none, Value.pointer none, Value.pointer none, Value.pointer none, Value.pointer none, Value.pointer none, Value.pointer none, Value.pointer none, Value.pointer none, Value.pointer none, Value.pointer none, Value.pointer none, Value.pointer none, Value.pointer none, Value.pointer none, Value.pointer none, Value.pointer none, Value.pointer none, Value.pointer none, Value.pointer none, Value.pointer none, Value.pointer none, Value.pointer none, Value.pointer none, Value.pointer none, Value.pointer none, Value.pointer none, Value.pointer none, Value.pointer none, Value.pointer none, Value.pointer none, Value.pointer none, Value.pointer none, Value.pointer none, Value.pointer none, Value.pointer none, Value.pointer none, Value.pointer none, Value.pointer none, Value.pointer none, Value.pointer none, Value.pointer none, Value.pointer none, Value.pointer none, Value.pointer none, Value.pointer none, Value.pointer none, Value.pointer none, Value.pointer none, Value.pointer none, Value.pointer none, Value.pointer none, Value.pointer none, Value.pointer none, Value.pointer none, Value.pointer none, Value.pointer none, Value.pointer none, Value.pointer none, Value.pointer none, Value.pointer none, Value.pointer none, Value.pointer none, Value.pointer none] [] 108 31 IntKind.i64) := by rfl
theorem TyT110 : TyT 110 = some (TI.mk 3 true 219 1784 [Value.slice none 0 0, Value.slice none 0 0, Value.pointer none, Value.pointer none, Value.pointer none, Value.pointer none, Value.pointer none, Value.pointer none, Value.pointer none, Value.pointer none, Value.pointer none, Value.pointer none, Value.pointer none, Value.pointer none, Value.pointer none, Value.pointer none, Value.pointer none, Value.pointer none, Value.pointer none, Value.pointer none, Value.pointer none, Value.pointer none, Value.pointer none, Value.pointer none, Value.pointer none, Value.pointer none, Value.pointer none, Value.pointer none, Value.pointer none, Value.pointer none, Value.pointer none, Value.pointer none, Value.pointer none, Value.pointer none, Value.pointer none, Value.pointer none, Value.pointer none, Value.pointer none, Value.pointer none, Value.pointer none, Value.pointer none, Value.pointer none, Value.pointer none, Value.pointer none, Value.pointer none, Value.pointer none, Value.pointer none, Value.pointer none, Value.pointer none, Value.pointer none, Value.pointer none, Value.pointer none, Value.pointer none, Value.pointer none, Value.pointer none, Value.pointer none, Value.pointer none, Value.pointer none, Value.pointer none, Value.pointer none, Value.pointer none, Value.pointer none, Value.pointer none, Value.pointer none, Value.pointer none, Value.pointer none, Value.pointer none, Value.pointer none, Value.pointer none, Value.pointer none, Value.pointer none, Value.pointer none, Value.pointer none, Value.pointer none, Value.pointer none, Value.pointer none, Value.pointer none, Value.pointer none, Value.pointer none, Value.pointer none, Value.pointer none, Value.pointer none, Value.pointer none, Value.pointer none, Value.pointer none, Value.pointer none, Value.pointer none, Value.pointer none, Value.pointer none, Value.pointer none, Value.pointer none, Value.pointer none, Value.pointer none, Value.pointer none, Value.pointer none, Value.pointer none, Value.pointer none, Value.pointer none, Value.pointer none, Value.pointer none, Value.pointer none, Value.pointer none, Value.pointer none, Value.pointer none, Value.pointer none, Value.pointer none, Value.pointer none, Value.pointer none, Value.pointer none, Value.pointer none, Value.pointer none, Value.pointer none, Value.pointer none, Value.pointer none, Value.pointer none, Value.pointer none, Value.pointer none, Value.pointer none, Value.pointer none, Value.pointer none, Value.pointer none, Value.pointer none, Value.pointer none, Value.pointer none, Value.pointer none, Value.pointer none, Value.pointer none, Value.pointer none, Value.pointer none, Value.pointer none, Value.pointer none, Value.pointer none, Value.pointer none, Value.pointer none, Value.pointer none, Value.pointer none, Value.pointer none, Value.pointer none, Value.pointer none, Value.pointer none, Value.pointer none, Value.pointer none, Value.pointer none, Value.pointer none, Value.pointer none, Value.pointer none, Value.pointer none, Value.pointer none, Value.pointer none, Value.pointer none, Value.pointer none, Value.pointer none, Value.pointer none, Value.pointer none, Value.pointer none, Value.pointer none, Value.pointer none, Value.pointer none, Value.pointer none, Value.pointer none, Value.pointer none, Value.pointer none, Value.pointer none, Value.pointer none, Value.pointer none, Value.pointer none, Value.pointer none, Value.pointer none, Value.pointer none, Value.pointer none, Value.pointer none, Value.pointer none, Value.pointer none, Value.pointer none, Value.pointer none, Value.pointer none, Value.pointer none, Value.pointer none, Value.pointer none, Value.pointer none, Value.pointer none, Value.pointer none, Value.pointer none, Value.pointer none, Value.pointer none, Value.pointer none, Value.pointer none, Value.pointer none, Value.pointer none, Value.pointer none, Value.pointer none, Value.pointer none, Value.pointer none, Value.pointer none, Value.pointer none, Value.pointer none, Value.pointer none, Value.pointer none, Value.pointer none, Value.pointer none, Value.pointer none, Value.pointer none, Value.pointer none, Value.pointer none, Value.pointer none, Value.pointer none, Value.pointer none, Value.pointer none, Value.pointer none, Value.pointer none, Value.pointer none, Value.pointer none, Value.pointer none, Value.pointer none, Value.pointer none, Value.pointer none, Value.pointer none, Value.pointer none, Value.pointer none] [(0, 1), (1, 1), (2, 217)] 0 0 IntKind.i64) := by rfl
theorem TyT111 : TyT 111 = some (TI.mk 3 true 219 1784 [Value.slice none 0 0, Value.slice none 0 0, Value.pointer none, Value.pointer none, Value.pointer none, Value.pointer none, Value.pointer none, Value.pointer none, Value.pointer none, Value.pointer none, Value.pointer none, Value.pointer none, Value.pointer none, Value.pointer none, Value.pointer none, Value.pointer none, Value.pointer none, Value.pointer none, Value.pointer none, Value.pointer none, Value.pointer none, Value.pointer none, Value.pointer none, Value.pointer none, Value.pointer none, Value.pointer none, Value.pointer none, Value.pointer none, Value.pointer none, Value.pointer none, Value.pointer none, Value.pointer none, Value.pointer none, Value.pointer none, Value.pointer none, Value.pointer none, Value.pointer none, Value.pointer none, Value.pointer none, Value.pointer none, Value.pointer none, Value.pointer none, Value.pointer none, Value.pointer none, Value.pointer none, Value.pointer none, Value.pointer none, Value.pointer none, Value.pointer none, Value.pointer none, Value.pointer none, Value.pointer none, Value.pointer none, Value.pointer none, Value.pointer none, Value.pointer none, Value.pointer none, Value.pointer none, Value.pointer none, Value.pointer none, Value.pointer none, Value.pointer none, Value.pointer none, Value.pointer none, Value.pointer none, Value.pointer none, Value.pointer none, Value.pointer none, Value.pointer none, Value.pointer none, Value.pointer none, Value.pointer none, Value.pointer none, Value.pointer none, Value.pointer none, Value.pointer none, Value.pointer none, Value.pointer none, Value.pointer none, Value.pointer none, Value.pointer none, Value.pointer none, Value.pointer none, Value.pointer none, Value.pointer none, Value.pointer none, Value.pointer none, Value.pointer none, Value.pointer none, Value.pointer none, Value.pointer none, Value.pointer none, Value.pointer none, Value.pointer none, Value.pointer none, Value.pointer none, Value.pointer none, Value.pointer none, Value.pointer none, Value.pointer none, Value.pointer none, Value.pointer none, Value.pointer none, Value.pointer none, Value.pointer none, Value.pointer none, Value.pointer none, Value.pointer none, Value.pointer none, Value.pointer none, Value.pointer none, Value.pointer none, Value.pointer none, Value.pointer none, Value.pointer none, Value.pointer none, Value.pointer none, Value.pointer none, Value.pointer none, Value.pointer none, Value.pointer none, Value.pointer none, Value.pointer none, Value.pointer none, Value.pointer none, Value.pointer none, Value.pointer none, Value.pointer none, Value.pointer none, Value.pointer none, Value.pointer none, Value.pointer none, Value.pointer none, Value.pointer none, Value.pointer none, Value.pointer none, Value.pointer none, Value.pointer none, Value.pointer none, Value.pointer none, Value.pointer none, Value.pointer none, Value.pointer none, Value.pointer none, Value.pointer none, Value.pointer none, Value.pointer none, Value.pointer none, Value.pointer none, Value.pointer none, Value.pointer none, Value.pointer none, Value.pointer none, Value.pointer none, Value.pointer none, Value.pointer none, Value.pointer none, Value.pointer none, Value.pointer none, Value.pointer none, Value.pointer none, Value.pointer none, Value.pointer none, Value.pointer none, Value.pointer none, Value.pointer none, Value.pointer none, Value.pointer none, Value.pointer none, Value.pointer none, Value.pointer none, Value.pointer none, Value.pointer none, Value.pointer none, Value.pointer none, Value.pointer none, Value.pointer none, Value.pointer none, Value.pointer none, Value.pointer none, Value.pointer none, Value.pointer none, Value.pointer none, Value.pointer none, Value.pointer none, Value.pointer none, Value.pointer none, Value.pointer none, Value.pointer none, Value.pointer none, Value.pointer none, Value.pointer none, Value.pointer none, Value.pointer none, Value.pointer none, Value.pointer none, Value.pointer none, Value.pointer none, Value.pointer none, Value.pointer none, Value.pointer none, Value.pointer none, Value.pointer none, Value.pointer none, Value.pointer none, Value.pointer none, Value.pointer none, Value.pointer none, Value.pointer none, Value.pointer none, Value.pointer none, Value.pointer none, Value.pointer none, Value.pointer none, Value.pointer none, Value.pointer none, Value.pointer none, Value.pointer none, Value.pointer none] [(0, 1), (1, 1), (2, 217)] 0 0 IntKind.i64) := by rfl
theorem TyT112 : TyT 112 = some (TI.mk 0 false 1 8 [Value.nilFunc] [] 0 0 IntKind.i64) := by rfl
theorem TyT113 : TyT 113 = some (TI.mk 0 false 1 8 [Value.nilFunc] [] 0 0 IntKind.i64) := by rfl
theorem TyT114 : TyT 114 = some (TI.mk 0 false 1 8 [Value.nilFunc] [] 0 0 IntKind.i64) := by rfl
theorem TyT115 : TyT 115 = some (TI.mk 0 false 1 8 [Value.nilFunc] [] 0 0 IntKind.i64) := by rfl
theorem TyT116 : TyT 116 = some (TI.mk 0 false 1 8 [Value.nilFunc] [] 0 0 IntKind.i64) := by rfl
theorem TyT117 : TyT 117 = some (TI.mk 1 false 1 24 [Value.slice none 0 0] [] 4 0 IntKind.i64) := by rfl
theorem TyT118 : TyT 118 = some (TI.mk 0 false 1 8 [Value.nilFunc] [] 0 0 IntKind.i64) := by rfl
theorem TyT119 : TyT 119 = some (TI.mk 0 false 1 8 [Value.nilFunc] [] 0 0 IntKind.i64) := by rfl
theorem TyT120 : TyT 120 = some (TI.mk 0 false 1 8 [Value.nilFunc] [] 0 0 IntKind.i64) := by rfl
theorem TyT121 : TyT 121 = some (TI.mk 0 false 1 8 [Value.nilFunc] [] 0 0 IntKind.i64) := by rfl
theorem TyT122 : TyT 122 = some (TI.mk 6 false 1 8 [Value.int IntKind.u64 0] [] 0 0 IntKind.u64) := by rfl
theorem TyT123 : TyT 123 = some (TI.mk 0 false 1 8 [Value.nilFunc] [] 0 0 IntKind.i64) := by rfl
theorem TyT124 : TyT 124 = some (TI.mk 0 false 1 8 [Value.nilFunc] [] 0 0 IntKind.i64) := by rfl
theorem TyT125 : TyT 125 = some (TI.mk 6 false 1 8 [Value.int IntKind.i64 0] [] 0 0 IntKind.i64) := by rfl
theorem TyT127 : TyT 127 = some (TI.mk 0 false 1 8 [Value.nilFunc] [] 0 0 IntKind.i64) := by rfl
theorem TyT128 : TyT 128 = some (TI.mk 0 false 1 8 [Value.nilFunc] [] 0 0 IntKind.i64) := by rfl
theorem TyT129 : TyT 129 = some (TI.mk 0 false 1 8 [Value.nilFunc] [] 0 0 IntKind.i64) := by rfl
theorem TyT130 : TyT 130 = some (TI.mk 0 false 1 8 [Value.nilFunc] [] 0 0 IntKind.i64) := by rfl
theorem TyT131 : TyT 131 = some (TI.mk 0 false 1 8 [Value.nilFunc] [] 0 0 IntKind.i64) := by rfl
theorem TyT132 : TyT 132 = some (TI.mk 6 false 1 4 [Value.int IntKind.u32 0] [] 0 0 IntKind.u32) := by rfl
theorem TyT133 : TyT 133 = some (TI.mk 0 false 1 8 [Value.nilFunc] [] 0 0 IntKind.i64) := by rfl
theorem TyT134 : TyT 134 = some (TI.mk 6 false 1 8 [Value.int IntKind.u64 0] [] 0 0 IntKind.u64) := by rfl
theorem TyT135 : TyT 135 = some (TI.mk 0 false 1 8 [Value.nilFunc] [] 0 0 IntKind.i64) := by rfl
theorem TyT136 : TyT 136 = some (TI.mk 6 false 1 8 [Value.int IntKind.u64 0] [] 0 0 IntKind.u64) := by rfl
theorem TyT137 : TyT 137 = some (TI.mk 0 false 1 8 [Value.nilFunc] [] 0 0 IntKind.i64) := by rfl
theorem TyT138 : TyT 138 = some (TI.mk 0 false 1 8 [Value.nilFunc] [] 0 0 IntKind.i64) := by rfl
theorem TyT139 : TyT 139 = some (TI.mk 0 false 1 8 [Value.nilFunc] [] 0 0 IntKind.i64) := by rfl
theorem TyT140 : TyT 140 = some (TI.mk 7 false 1 8 [Value.pointer none] [] 3 0 IntKind.i64) := by rfl
theorem TyT141 : TyT 141 = some (TI.mk 0 false 1 8 [Value.nilFunc] [] 0 0 IntKind.i64) := by rfl
theorem TyT142 : TyT 142 = some (TI.mk 7 false 1 8 [Value.pointer none] [] 136 0 IntKind.i64) := by rfl
theorem TyT144 : TyT 144 = some (TI.mk 0 false 1 8 [Value.nilFunc] [] 0 0 IntKind.i64) := by rfl
theorem TyT145 : TyT 145 = some (TI.mk 0 false 1 8 [Value.nilFunc] [] 0 0 IntKind.i64) := by rfl
theorem TyT146 : TyT 146 = some (TI.mk 3 true 4 40 [Value.pointer none, Value.pointer none, Value.pointer none, Value.string (ByteArray.mk (Array.mk []))] [(0, 1), (1, 1), (2, 1), (3, 1)] 0 0 IntKind.i64) := by rfl
theorem TyT147 : TyT 147 = some (TI.mk 3 true 4 40 [Value.pointer none, Value.pointer none, Value.pointer none, Value.string (ByteArray.mk (Array.mk []))] [(0, 1), (1, 1), (2, 1), (3, 1)] 0 0 IntKind.i64) := by rfl
theorem TyT148 : TyT 148 = some (TI.mk 2 true 0 0 [] [] 16 0 IntKind.i64) := by rfl
theorem TyT151 : TyT 151 = some (TI.mk 6 false 1 1 [Value.int IntKind.u8 0] [] 0 0 IntKind.u8) := by rfl
theorem TyT152 : TyT 152 = some (TI.mk 6 false 1 1 [Value.int IntKind.u8 0] [] 0 0 IntKind.u8) := by rfl
theorem TyT153 : TyT 153 = some (TI.mk 0 false 1 8 [Value.nilFunc] [] 0 0 IntKind.i64) := by rfl
theorem TyT154 : TyT 154 = some (TI.mk 7 false 1 8 [Value.pointer none] [] 5 0 IntKind.i64) := by rfl
theorem TyT155 : TyT 155 = some (TI.mk 6 false 1 4 [Value.int IntKind.i32 0] [] 0 0 IntKind.i32) := by rfl
theorem TyT156 : TyT 156 = some (TI.mk 6 false 1 4 [Value.int IntKind.i32 0] [] 0 0 IntKind.i32) := by rfl
theorem TyT157 : TyT 157 = some (TI.mk 3 true 11 48 [Value.int IntKind.u64 0, Value.int IntKind.u64 0, Value.int IntKind.u32 0, Value.int IntKind.u8 0, Value.int IntKind.u8 0, Value.int IntKind.u8 0, Value.int IntKind.u8 0, Value.nilFunc, Value.pointer none, Value.int IntKind.i32 0, Value.int IntKind.i32 0] [(0, 1), (1, 1), (2, 1), (3, 1), (4, 1), (5, 1), (6, 1), (7, 1), (8, 1), (9, 1), (10, 1)] 0 0 IntKind.i64) := by rfl
theorem TyT158 : TyT 158 = some (TI.mk 3 true 11 48 [Value.int IntKind.u64 0, Value.int IntKind.u64 0, Value.int IntKind.u32 0, Value.int IntKind.u8 0, Value.int IntKind.u8 0, Value.int IntKind.u8 0, Value.int IntKind.u8 0, Value.nilFunc, Value.pointer none, Value.int IntKind.i32 0, Value.int IntKind.i32 0] [(0, 1), (1, 1), (2, 1), (3, 1), (4, 1), (5, 1), (6, 1), (7, 1), (8, 1), (9, 1), (10, 1)] 0 0 IntKind.i64) := by rfl
theorem TyT159 : TyT 159 = some (TI.mk 0 false 1 8 [Value.nilFunc] [] 0 0 IntKind.i64) := by rfl
theorem TyT160 : TyT 160 = some (TI.mk 0 false 1 8 [Value.pointer none] [] 0 0 IntKind.i64) := by rfl
theorem TyT161 : TyT 161 = some (TI.mk 3 true 2 16 [Value.int IntKind.i64 0, Value.int IntKind.i64 0] [(0, 1), (1, 1)] 0 1 IntKind.i64) := by rfl
theorem TyT162 : TyT 162 = some (TI.mk 3 true 2 16 [Value.int IntKind.i64 0, Value.int IntKind.i64 0] [(0, 1), (1, 1)] 0 1 IntKind.i64) := by rfl
end Go.Proofs.Ytalbgcpfekmfoaa
