/- Calls that the law makes again and again, carried out once each by the abstract evaluator in the kernel. Nothing is asked. -/
import Derived.Test.YtddipefieohbdaaGreatProg
import Derived.Test.YtddipefieohbdaaGreatCeA
import Derived.KernelRfl
namespace Go.Proofs.YtddipefieohbdaaGreat.MemoLeafKnown
open Go.Ce

/-- A hint alone: which temporaries to keep. -/
def keep : List Nat := [0, 0, 0, 3107839, 15, 132226261520350066474271, 115, 783, 115, 5, 51, 13, 131031, 31, 30786325580407, 19, 19, 19, 281474976710687, 2039, 63, 63, 15, 63, 5, 59, 32281802128991715955, 5, 917549, 63, 13, 4079, 7, 59, 234927743, 55, 31, 459263, 127, 1610620127, 7516192799, 55, 28919, 13, 51, 1, 435, 5, 23, 5, 6127, 65495, 455, 7951, 32735, 0, 111, 7, 511, 63615, 435, 15, 7, 129127208515966959551, 7, 247, 5, 63, 15, 7345951, 41904174945704094971116633193212897912136927614434335, 2166395068749415488591214367, 247, 51, 7, 31, 31, 55, 13, 63, 7, 7, 79, 45, 2015, 7, 19, 31, 23, 23, 895, 47, 119, 975, 2167, 7, 15, 5, 5, 5, 5, 5, 5, 5, 15, 71, 3940649674633343, 19, 11, 119, 13, 55, 7, 11, 15, 5, 19, 5, 111, 27, 14515, 31, 31, 435, 31, 15, 243, 967, 435, 15, 7, 4, 47, 12791, 15, 383, 23, 179, 223, 19, 31, 55, 19, 7, 109, 4055, 31, 123, 1, 206159355343, 115, 31, 55, 23, 51, 7, 31, 31, 5, 19, 43, 493, 115, 115, 2015, 7, 3, 3, 3, 3, 19, 15, 15, 503, 3, 7, 15, 435, 31, 435, 1823, 23, 7, 435, 31, 7, 7, 15, 7, 15, 1083461986899718795570449239, 111, 7, 2047, 435, 243, 23, 7, 7, 221, 6597069766751, 2096159, 5, 435, 5, 5, 5, 7, 7, 7, 7, 31, 911, 95, 115, 31, 23, 29, 61, 5, 19, 43, 247, 2096159, 5, 5, 435, 31, 3911, 111, 23, 435, 15, 3603, 127, 7, 71, 127, 7, 19, 15, 127, 7, 31, 23, 15, 109, 71, 19, 15, 27, 31, 15032643391, 31, 5115255730658741750961086665124339134651597959967, 15, 120273891279, 7, 3940650076725047, 7, 12586807, 31, 16725558898969510454602023424246202942976799, 19, 19, 19, 783, 7951, 7943, 36028797018996495, 775, 7951, 7199, 15391, 5, 5, 19, 1005, 5, 115, 31, 23, 3, 471, 5, 247, 2096159, 783, 7951, 7943, 36028797018996495, 775, 7951, 7199, 15391, 7, 19, 19, 63, 63, 63, 15, 7, 435, 443, 7, 47, 287, 31, 7, 243, 13279, 11, 255, 127, 31, 799, 55, 3279, 51, 7, 31, 127, 2031, 13, 7, 23, 474619, 3527, 7355, 29592535, 7415, 31, 123, 3678191, 5, 7, 31, 19, 31, 31, 199, 3103, 5, 5, 271, 4151, 435, 7, 119, 5, 61, 5, 71, 115, 19, 5, 199, 435, 15, 783, 7951, 7943, 36028797018996495, 775, 7951, 7199, 15391, 3103, 271, 4151, 435, 43, 435, 127, 7, 31, 60324819, 127, 8031, 31, 19, 31, 31, 31, 31, 31, 5, 19, 43, 31, 13, 5, 5, 43, 1979, 61, 19, 15, 19, 31, 1, 61, 61, 23, 63, 131007, 4063, 247, 83, 2096159, 3103, 5, 1, 524047, 5, 0, 3103, 271, 4151, 3103, 975, 5, 247, 2096159, 247, 524047, 435, 2096159, 19, 27, 28851, 15, 51, 17, 28851, 7, 5, 23, 47, 479, 13, 23, 783, 7951, 7943, 36028797018996495, 775, 7951, 7199, 15391, 493, 199, 1991, 1991, 562949953429447, 199, 1991, 19, 1807, 3855, 3103, 493, 783, 7951, 7943, 36028797018996495, 775, 7951, 7199, 15391, 199, 1991, 1991, 562949953429447, 199, 1991, 19, 1807, 3855, 783, 7951, 7943, 36028797018996495, 775, 7951, 7199, 15391, 239, 471, 5, 3103, 271, 4151, 783, 71, 1047, 3103, 271, 4151, 783, 71, 1047, 3103, 271, 4151, 15, 3103, 783, 3103, 783, 3103, 0, 0, 0, 0, 0, 0, 0, 0, 0, 0, 0, 0, 0, 0, 0, 0, 0, 0]

noncomputable def xt0 : List (FuncId × ASpec) := [(416, cmpA)]
noncomputable def env0 : Env := ⟨Tryz.prog, xt0, keep, [94], [39, 13, 324, 319, 262, 154, 73, 70, 67, 39]⟩

noncomputable def e39_0 : Memo := ⟨[.agg [.int .i64 (.ofNat 2), .int .i64 (.ofNat 1), .slice 0 0 2 2 true 3, .slice 1 0 1 1 true 2, .slice 2 0 2 2 true 6, .slice 9 0 3 3 true 2, .nilSlice, .nilSlice, .int .i64 (.ofNat 0), .int .i64 (.ofNat 0), .int .i64 (.ofNat 0), .bool false, .bool false, .int .i64 (.ofNat 3), .int .i64 (.ofNat 9), .int .i64 (.ofNat 100), .int .i64 (.ofNat 20), .int .i64 (.ofNat 5), .int .i64 (.ofNat 50)]],
  [(0, .cells 54 [.int .i64 (.ofNat 0), .int .i64 (.ofNat 2), .int .i64 (.ofNat 1), .int .i64 (.ofNat 1), .int .i64 (.ofNat 2), .int .i64 (.ofNat 1)]),
  (8, .cells 3 [.int .i64 (.ofNat 0)]),
  (4, .cells 3 [.int .i64 (.ofNat 0), .int .i64 (.ofNat 1)]),
  (2, .cells 62 [.int .i64 (.ofNat 0), .int .u32 (.ofNat 10), .int .u32 (.ofNat 2), .int .u32 (.ofNat 167772160), .int .i64 (.ofNat 24), .int .u32 (.ofNat 167772161), .int .i64 (.ofNat 0), .int .u32 (.ofNat 20), .int .u32 (.ofNat 3), .int .u32 (.ofNat 0), .int .i64 (.ofNat 0), .int .u32 (.ofNat 0)]),
  (6, .cells 3 [.int .i64 (.ofNat 0)]),
  (1, .cells 57 [.int .u32 (.ofNat 100), .int .u32 (.ofNat 1)]),
  (9, .cells 66 [.slice 3 0 1 1 true 1, .slice 4 0 2 2 true 1, .slice 5 0 2 2 true 1, .slice 6 0 1 1 true 1, .slice 7 0 1 1 true 1, .slice 8 0 1 1 true 1]),
  (5, .cells 3 [.int .i64 (.ofNat 0), .int .i64 (.ofNat 1)]),
  (3, .cells 3 [.int .i64 (.ofNat 0)]),
  (7, .cells 3 [.int .i64 (.ofNat 1)])],
  .tup [.int .i64 (.ofNat 0), .str [], .int .i64 (.ofNat 0)]⟩
set_option maxRecDepth 1000000 in
theorem e39_0_ok : memoOk env0 100000 39 12 e39_0 = true := by kernel_rfl

noncomputable def e39_1 : Memo := ⟨[.agg [.int .i64 (.ofNat 2), .int .i64 (.ofNat 1), .slice 15 0 2 2 false 3, .slice 17 0 1 1 false 2, .slice 19 0 2 2 false 6, .slice 21 0 3 3 false 2, .nilSlice, .nilSlice, .int .i64 (.ofNat 0), .int .i64 (.ofNat 0), .int .i64 (.ofNat 0), .bool false, .bool false, .int .i64 (.ofNat 3), .int .i64 (.ofNat 9), .int .i64 (.ofNat 100), .int .i64 (.ofNat 20), .int .i64 (.ofNat 5), .int .i64 (.ofNat 50)]],
  [(24, .cells 3 [.int .i64 (.ofNat 0)]),
  (36, .cells 3 [.int .i64 (.ofNat 0)]),
  (34, .cells 3 [.int .i64 (.ofNat 1)]),
  (26, .cells 3 [.int .i64 (.ofNat 0), .int .i64 (.ofNat 1)]),
  (17, .cells 57 [.int .u32 (.ofNat 100), .int .u32 (.ofNat 1)]),
  (21, .cells 66 [.slice 24 0 1 1 false 1, .slice 26 0 2 2 false 1, .slice 29 0 2 2 false 1, .slice 31 0 1 1 false 1, .slice 34 0 1 1 false 1, .slice 36 0 1 1 false 1]),
  (29, .cells 3 [.int .i64 (.ofNat 0), .int .i64 (.ofNat 1)]),
  (19, .cells 62 [.int .i64 (.ofNat 0), .int .u32 (.ofNat 10), .int .u32 (.ofNat 2), .int .u32 (.ofNat 167772160), .int .i64 (.ofNat 24), .int .u32 (.ofNat 167772161), .int .i64 (.ofNat 0), .int .u32 (.ofNat 20), .int .u32 (.ofNat 3), .int .u32 (.ofNat 0), .int .i64 (.ofNat 0), .int .u32 (.ofNat 0)]),
  (15, .cells 54 [.int .i64 (.ofNat 0), .int .i64 (.ofNat 2), .int .i64 (.ofNat 1), .int .i64 (.ofNat 1), .int .i64 (.ofNat 2), .int .i64 (.ofNat 1)]),
  (31, .cells 3 [.int .i64 (.ofNat 0)])],
  .tup [.int .i64 (.ofNat 0), .str [], .int .i64 (.ofNat 0)]⟩
set_option maxRecDepth 1000000 in
theorem e39_1_ok : memoOk env0 100000 39 61 e39_1 = true := by kernel_rfl

noncomputable def e39_2 : Memo := ⟨[.agg [.int .i64 (.ofNat 2), .int .i64 (.ofNat 1), .slice 1455 0 2 2 true 3, .slice 1456 0 1 1 true 2, .slice 1457 0 2 2 true 6, .slice 1464 0 3 3 true 2, .nilSlice, .nilSlice, .int .i64 (.ofNat 0), .int .i64 (.ofNat 0), .int .i64 (.ofNat 0), .bool false, .bool false, .int .i64 (.ofNat 3), .int .i64 (.ofNat 9), .int .i64 (.ofNat 100), .int .i64 (.ofNat 20), .int .i64 (.ofNat 5), .int .i64 (.ofNat 50)]],
  [(1456, .cells 57 [.int .u32 (.ofNat 100), .int .u32 (.ofNat 1)]),
  (1464, .cells 66 [.slice 1458 0 1 1 true 1, .slice 1459 0 2 2 true 1, .slice 1460 0 2 2 true 1, .slice 1461 0 1 1 true 1, .slice 1462 0 1 1 true 1, .slice 1463 0 1 1 true 1]),
  (1460, .cells 3 [.int .i64 (.ofNat 0), .int .i64 (.ofNat 1)]),
  (1458, .cells 3 [.int .i64 (.ofNat 0)]),
  (1462, .cells 3 [.int .i64 (.ofNat 1)]),
  (1457, .cells 62 [.int .i64 (.ofNat 0), .int .u32 (.ofNat 10), .int .u32 (.ofNat 2), .int .u32 (.ofNat 167772160), .int .i64 (.ofNat 24), .int .u32 (.ofNat 167772161), .int .i64 (.ofNat 0), .int .u32 (.ofNat 20), .int .u32 (.ofNat 3), .int .u32 (.ofNat 0), .int .i64 (.ofNat 0), .int .u32 (.ofNat 0)]),
  (1461, .cells 3 [.int .i64 (.ofNat 0)]),
  (1459, .cells 3 [.int .i64 (.ofNat 0), .int .i64 (.ofNat 1)]),
  (1463, .cells 3 [.int .i64 (.ofNat 0)]),
  (1455, .cells 54 [.int .i64 (.ofNat 0), .int .i64 (.ofNat 2), .int .i64 (.ofNat 1), .int .i64 (.ofNat 1), .int .i64 (.ofNat 2), .int .i64 (.ofNat 1)])],
  .tup [.int .i64 (.ofNat 0), .str [], .int .i64 (.ofNat 0)]⟩
set_option maxRecDepth 1000000 in
theorem e39_2_ok : memoOk env0 100000 39 1467 e39_2 = true := by kernel_rfl

noncomputable def e39_3 : Memo := ⟨[.agg [.int .i64 (.ofNat 2), .int .i64 (.ofNat 1), .slice 1470 0 2 2 false 3, .slice 1472 0 1 1 false 2, .slice 1474 0 2 2 false 6, .slice 1476 0 3 3 false 2, .nilSlice, .nilSlice, .int .i64 (.ofNat 0), .int .i64 (.ofNat 0), .int .i64 (.ofNat 0), .bool false, .bool false, .int .i64 (.ofNat 3), .int .i64 (.ofNat 9), .int .i64 (.ofNat 100), .int .i64 (.ofNat 20), .int .i64 (.ofNat 5), .int .i64 (.ofNat 50)]],
  [(1472, .cells 57 [.int .u32 (.ofNat 100), .int .u32 (.ofNat 1)]),
  (1476, .cells 66 [.slice 1479 0 1 1 false 1, .slice 1481 0 2 2 false 1, .slice 1484 0 2 2 false 1, .slice 1486 0 1 1 false 1, .slice 1489 0 1 1 false 1, .slice 1491 0 1 1 false 1]),
  (1484, .cells 3 [.int .i64 (.ofNat 0), .int .i64 (.ofNat 1)]),
  (1474, .cells 62 [.int .i64 (.ofNat 0), .int .u32 (.ofNat 10), .int .u32 (.ofNat 2), .int .u32 (.ofNat 167772160), .int .i64 (.ofNat 24), .int .u32 (.ofNat 167772161), .int .i64 (.ofNat 0), .int .u32 (.ofNat 20), .int .u32 (.ofNat 3), .int .u32 (.ofNat 0), .int .i64 (.ofNat 0), .int .u32 (.ofNat 0)]),
  (1486, .cells 3 [.int .i64 (.ofNat 0)]),
  (1470, .cells 54 [.int .i64 (.ofNat 0), .int .i64 (.ofNat 2), .int .i64 (.ofNat 1), .int .i64 (.ofNat 1), .int .i64 (.ofNat 2), .int .i64 (.ofNat 1)]),
  (1489, .cells 3 [.int .i64 (.ofNat 1)]),
  (1481, .cells 3 [.int .i64 (.ofNat 0), .int .i64 (.ofNat 1)]),
  (1491, .cells 3 [.int .i64 (.ofNat 0)]),
  (1479, .cells 3 [.int .i64 (.ofNat 0)])],
  .tup [.int .i64 (.ofNat 0), .str [], .int .i64 (.ofNat 0)]⟩
set_option maxRecDepth 1000000 in
theorem e39_3_ok : memoOk env0 100000 39 1516 e39_3 = true := by kernel_rfl

noncomputable def xt1 : List (FuncId × ASpec) := (39, memoA [e39_0, e39_1, e39_2, e39_3]) :: xt0
noncomputable def env1 : Env := ⟨Tryz.prog, xt1, keep, [94], [39, 13, 324, 319, 262, 154, 73, 70, 67, 39]⟩

noncomputable def e13_0 : Memo := ⟨[],
  [],
  .bool true⟩
set_option maxRecDepth 1000000 in
theorem e13_0_ok : memoOk env1 100000 13 1455 e13_0 = true := by kernel_rfl

noncomputable def xt2 : List (FuncId × ASpec) := (13, memoA [e13_0]) :: xt1
noncomputable def env2 : Env := ⟨Tryz.prog, xt2, keep, [94], [39, 13, 324, 319, 262, 154, 73, 70, 67, 39]⟩

end Go.Proofs.YtddipefieohbdaaGreat.MemoLeafKnown
