/- Calls that the law makes again and again, carried out once each by the abstract evaluator in the kernel. Nothing is asked. -/
import Derived.Test.YtfllojcmckefjahGreatProg
import Derived.Test.YtfllojcmckefjahGreatCeA
import Derived.KernelRfl
namespace Go.Proofs.YtfllojcmckefjahGreat.MemoInstallNames
open Go.Ce

/-- A hint alone: which temporaries to keep. -/
def keep : List Nat := [0, 0, 0, 127, 3, 1, 55, 3, 3940649674633343, 447, 51, 55, 51, 31, 12586807, 51, 15, 71, 13, 1610620127, 7345951, 2047, 51, 19, 23, 13, 230343, 5, 31, 12339, 230343, 5, 31, 12339, 230343, 5, 31, 12339, 55, 23, 7355, 29592535, 8191, 2167, 7, 15, 55, 55, 19, 7, 31, 15032643391, 31, 5115255730658741750961086665124339134651597959967, 15, 120273891279, 7, 3940650076725047, 7, 31, 16725558898969510454602023424246202942976799, 71, 5, 1971, 7, 12339, 1971, 7, 1971, 7, 12339, 29, 23, 15, 1979, 5, 61, 61, 7, 7, 207, 7, 7, 15, 7, 15, 1083461986899718795570449239, 111, 7, 71, 13, 435, 5, 5, 5, 206159355343, 51, 7, 31, 19, 28919, 47, 287, 115, 31, 7, 243, 13279, 11, 255, 127, 31, 799, 61, 1005, 55, 3279, 51, 7, 31, 493, 115, 115, 15, 127, 2031, 19, 13, 7, 23, 474619, 3527, 7415, 31, 123, 3678191, 5, 7, 31, 19, 31, 31, 3, 524047, 5, 471, 5, 119, 119, 1015, 2039, 1975, 119, 127, 7, 71, 127, 7, 7, 19, 15, 127, 7, 7, 31, 23, 19, 15, 23, 109, 19, 71, 5, 13, 19, 15, 27, 95, 5, 19, 43, 115, 435, 115, 23, 31, 435, 127, 7, 31, 60324819, 127, 8031, 31, 19, 31, 31, 31, 31, 31, 7, 119, 5, 61, 2015, 5, 19, 43, 5, 5, 19, 31, 13, 435, 5, 43, 61, 19, 15, 19, 31, 1, 23, 63, 131007, 4063, 247, 83, 7, 2096159, 199, 199, 1991, 1991, 562949953429447, 199, 1991, 19, 1807, 3855, 5, 5, 435, 15, 31, 23, 7, 31, 13, 51, 5, 13, 19, 63, 63, 435, 63, 15, 7, 435, 19, 435, 435, 443, 247, 2096159, 5, 5, 31, 975, 5, 5, 1, 524047, 31, 247, 2096159, 435, 247, 435, 2096159, 19, 27, 28851, 15, 51, 17, 28851, 7, 5, 23, 47, 479, 13, 23, 783, 7951, 7943, 36028797018996495, 775, 7951, 7199, 15391, 783, 5, 5, 71, 1047, 15, 7, 5, 435, 783, 7951, 7943, 36028797018996495, 775, 7951, 7199, 15391, 71, 115, 19, 5, 493, 493, 199, 1991, 1991, 562949953429447, 199, 1991, 19, 1807, 3855, 783, 7951, 7943, 36028797018996495, 775, 7951, 7199, 15391, 783, 7951, 7943, 36028797018996495, 775, 7951, 7199, 15391, 239, 471, 5, 3103, 271, 4151, 783, 3103, 271, 4151, 5, 0, 783, 71, 1047, 3103, 271, 4151, 3103, 271, 4151, 15, 3103, 3103, 783, 3103, 3103, 0, 0, 0, 0, 0, 0, 0, 0, 0, 0, 0, 0, 0, 0, 0, 0, 0]

noncomputable def xt0 : List (FuncId × ASpec) := [(362, cmpA)]
noncomputable def env0 : Env := ⟨Tryz.prog, xt0, keep, [43], [19, 42, 4, 127, 117, 96, 60, 19]⟩

noncomputable def e19_0 : Memo := ⟨[.agg [.int .i64 (.ofNat 2), .int .i64 (.ofNat 1), .slice 2 0 2 2 true 3, .slice 3 0 1 1 true 2, .slice 4 0 2 2 true 6, .slice 9 0 2 2 true 2, .slice 10 0 1 1 true 4, .nilSlice, .int .i64 (.ofNat 0), .int .i64 (.ofNat 0), .int .i64 (.ofNat 0), .bool false, .bool false, .int .i64 (.ofNat 3), .int .i64 (.ofNat 9), .int .i64 (.ofNat 100), .int .i64 (.ofNat 20), .int .i64 (.ofNat 5), .int .i64 (.ofNat 50)]],
  [(8, .cells 3 [.int .i64 (.ofNat 0)]),
  (4, .cells 72 [.int .i64 (.ofNat 0), .int .u32 (.ofNat 10), .int .u32 (.ofNat 2), .int .u32 (.ofNat 167772160), .int .i64 (.ofNat 24), .int .u32 (.ofNat 167772161), .int .i64 (.ofNat 0), .int .u32 (.ofNat 20), .int .u32 (.ofNat 3), .int .u32 (.ofNat 0), .int .i64 (.ofNat 0), .int .u32 (.ofNat 0)]),
  (2, .cells 77 [.int .i64 (.ofNat 0), .int .i64 (.ofNat 2), .int .i64 (.ofNat 1), .int .i64 (.ofNat 1), .int .i64 (.ofNat 2), .int .i64 (.ofNat 1)]),
  (10, .cells 84 [.int .u64 (.ofNat 2199023299073), .int .u32 (.ofNat 167772165), .int .i64 (.ofNat 0), .int .i64 (.ofNat 1)]),
  (6, .cells 3 [.int .i64 (.ofNat 0), .int .i64 (.ofNat 1)]),
  (9, .cells 82 [.slice 5 0 1 1 true 1, .slice 6 0 2 2 true 1, .slice 7 0 2 2 true 1, .slice 8 0 1 1 true 1]),
  (5, .cells 3 [.int .i64 (.ofNat 0)]),
  (3, .cells 79 [.int .u32 (.ofNat 100), .int .u32 (.ofNat 1)]),
  (7, .cells 3 [.int .i64 (.ofNat 0), .int .i64 (.ofNat 1)])],
  .tup [.int .i64 (.ofNat 0), .str [], .int .i64 (.ofNat 0)]⟩
set_option maxRecDepth 1000000 in
theorem e19_0_ok : memoOk env0 100000 19 41 e19_0 = true := by kernel_rfl

noncomputable def e19_1 : Memo := ⟨[.agg [.int .i64 (.ofNat 2), .int .i64 (.ofNat 1), .slice 15 0 2 2 true 3, .slice 16 0 1 1 true 2, .slice 17 0 2 2 true 6, .slice 22 0 2 2 true 2, .slice 23 0 1 1 true 4, .nilSlice, .int .i64 (.ofNat 0), .int .i64 (.ofNat 0), .int .i64 (.ofNat 0), .bool false, .bool false, .int .i64 (.ofNat 3), .int .i64 (.ofNat 9), .int .i64 (.ofNat 100), .int .i64 (.ofNat 20), .int .i64 (.ofNat 5), .int .i64 (.ofNat 50)]],
  [(16, .cells 79 [.int .u32 (.ofNat 100), .int .u32 (.ofNat 1)]),
  (20, .cells 3 [.int .i64 (.ofNat 0), .int .i64 (.ofNat 1)]),
  (18, .cells 3 [.int .i64 (.ofNat 0)]),
  (22, .cells 82 [.slice 18 0 1 1 true 1, .slice 19 0 2 2 true 1, .slice 20 0 2 2 true 1, .slice 21 0 1 1 true 1]),
  (17, .cells 72 [.int .i64 (.ofNat 0), .int .u32 (.ofNat 10), .int .u32 (.ofNat 2), .int .u32 (.ofNat 167772160), .int .i64 (.ofNat 24), .int .u32 (.ofNat 167772161), .int .i64 (.ofNat 0), .int .u32 (.ofNat 20), .int .u32 (.ofNat 3), .int .u32 (.ofNat 0), .int .i64 (.ofNat 0), .int .u32 (.ofNat 0)]),
  (21, .cells 3 [.int .i64 (.ofNat 0)]),
  (19, .cells 3 [.int .i64 (.ofNat 0), .int .i64 (.ofNat 1)]),
  (23, .cells 84 [.int .u64 (.ofNat 2199023299073), .int .u32 (.ofNat 167772165), .int .i64 (.ofNat 0), .int .i64 (.ofNat 1)]),
  (15, .cells 77 [.int .i64 (.ofNat 0), .int .i64 (.ofNat 2), .int .i64 (.ofNat 1), .int .i64 (.ofNat 1), .int .i64 (.ofNat 2), .int .i64 (.ofNat 1)])],
  .tup [.int .i64 (.ofNat 0), .str [], .int .i64 (.ofNat 0)]⟩
set_option maxRecDepth 1000000 in
theorem e19_1_ok : memoOk env0 100000 19 54 e19_1 = true := by kernel_rfl

noncomputable def e19_2 : Memo := ⟨[.agg [.int .i64 (.ofNat 2), .int .i64 (.ofNat 1), .slice 1 0 2 2 true 3, .slice 2 0 1 1 true 2, .slice 3 0 2 2 true 6, .slice 8 0 2 2 true 2, .slice 9 0 1 1 true 4, .nilSlice, .int .i64 (.ofNat 0), .int .i64 (.ofNat 0), .int .i64 (.ofNat 0), .bool false, .bool false, .int .i64 (.ofNat 3), .int .i64 (.ofNat 9), .int .i64 (.ofNat 100), .int .i64 (.ofNat 20), .int .i64 (.ofNat 5), .int .i64 (.ofNat 50)]],
  [(8, .cells 82 [.slice 4 0 1 1 true 1, .slice 5 0 2 2 true 1, .slice 6 0 2 2 true 1, .slice 7 0 1 1 true 1]),
  (4, .cells 3 [.int .i64 (.ofNat 0)]),
  (2, .cells 79 [.int .u32 (.ofNat 100), .int .u32 (.ofNat 1)]),
  (6, .cells 3 [.int .i64 (.ofNat 0), .int .i64 (.ofNat 1)]),
  (1, .cells 77 [.int .i64 (.ofNat 0), .int .i64 (.ofNat 2), .int .i64 (.ofNat 1), .int .i64 (.ofNat 1), .int .i64 (.ofNat 2), .int .i64 (.ofNat 1)]),
  (9, .cells 84 [.int .u64 (.ofNat 2199023299073), .int .u32 (.ofNat 167772165), .int .i64 (.ofNat 0), .int .i64 (.ofNat 1)]),
  (5, .cells 3 [.int .i64 (.ofNat 0), .int .i64 (.ofNat 1)]),
  (3, .cells 72 [.int .i64 (.ofNat 0), .int .u32 (.ofNat 10), .int .u32 (.ofNat 2), .int .u32 (.ofNat 167772160), .int .i64 (.ofNat 24), .int .u32 (.ofNat 167772161), .int .i64 (.ofNat 0), .int .u32 (.ofNat 20), .int .u32 (.ofNat 3), .int .u32 (.ofNat 0), .int .i64 (.ofNat 0), .int .u32 (.ofNat 0)]),
  (7, .cells 3 [.int .i64 (.ofNat 0)])],
  .tup [.int .i64 (.ofNat 0), .str [], .int .i64 (.ofNat 0)]⟩
set_option maxRecDepth 1000000 in
theorem e19_2_ok : memoOk env0 100000 19 534 e19_2 = true := by kernel_rfl

noncomputable def e19_3 : Memo := ⟨[.agg [.int .i64 (.ofNat 2), .int .i64 (.ofNat 1), .slice 698 0 2 2 true 3, .slice 699 0 1 1 true 2, .slice 700 0 2 2 true 6, .slice 705 0 2 2 true 2, .slice 706 0 1 1 true 4, .nilSlice, .int .i64 (.ofNat 0), .int .i64 (.ofNat 0), .int .i64 (.ofNat 0), .bool false, .bool false, .int .i64 (.ofNat 3), .int .i64 (.ofNat 9), .int .i64 (.ofNat 100), .int .i64 (.ofNat 20), .int .i64 (.ofNat 5), .int .i64 (.ofNat 50)]],
  [(704, .cells 3 [.int .i64 (.ofNat 0)]),
  (700, .cells 72 [.int .i64 (.ofNat 0), .int .u32 (.ofNat 10), .int .u32 (.ofNat 2), .int .u32 (.ofNat 167772160), .int .i64 (.ofNat 24), .int .u32 (.ofNat 167772161), .int .i64 (.ofNat 0), .int .u32 (.ofNat 20), .int .u32 (.ofNat 3), .int .u32 (.ofNat 0), .int .i64 (.ofNat 0), .int .u32 (.ofNat 0)]),
  (706, .cells 84 [.int .u64 (.ofNat 2199023299073), .int .u32 (.ofNat 167772165), .int .i64 (.ofNat 0), .int .i64 (.ofNat 1)]),
  (698, .cells 77 [.int .i64 (.ofNat 0), .int .i64 (.ofNat 2), .int .i64 (.ofNat 1), .int .i64 (.ofNat 1), .int .i64 (.ofNat 2), .int .i64 (.ofNat 1)]),
  (702, .cells 3 [.int .i64 (.ofNat 0), .int .i64 (.ofNat 1)]),
  (705, .cells 82 [.slice 701 0 1 1 true 1, .slice 702 0 2 2 true 1, .slice 703 0 2 2 true 1, .slice 704 0 1 1 true 1]),
  (701, .cells 3 [.int .i64 (.ofNat 0)]),
  (699, .cells 79 [.int .u32 (.ofNat 100), .int .u32 (.ofNat 1)]),
  (703, .cells 3 [.int .i64 (.ofNat 0), .int .i64 (.ofNat 1)])],
  .tup [.int .i64 (.ofNat 0), .str [], .int .i64 (.ofNat 0)]⟩
set_option maxRecDepth 1000000 in
theorem e19_3_ok : memoOk env0 100000 19 737 e19_3 = true := by kernel_rfl

noncomputable def e19_4 : Memo := ⟨[.agg [.int .i64 (.ofNat 2), .int .i64 (.ofNat 1), .slice 1201 0 2 2 true 3, .slice 1202 0 1 1 true 2, .slice 1203 0 2 2 true 6, .slice 1208 0 2 2 true 2, .slice 1209 0 1 1 true 4, .nilSlice, .int .i64 (.ofNat 0), .int .i64 (.ofNat 0), .int .i64 (.ofNat 0), .bool false, .bool false, .int .i64 (.ofNat 3), .int .i64 (.ofNat 9), .int .i64 (.ofNat 100), .int .i64 (.ofNat 20), .int .i64 (.ofNat 5), .int .i64 (.ofNat 50)]],
  [(1208, .cells 82 [.slice 1204 0 1 1 true 1, .slice 1205 0 2 2 true 1, .slice 1206 0 2 2 true 1, .slice 1207 0 1 1 true 1]),
  (1204, .cells 3 [.int .i64 (.ofNat 0)]),
  (1202, .cells 79 [.int .u32 (.ofNat 100), .int .u32 (.ofNat 1)]),
  (1206, .cells 3 [.int .i64 (.ofNat 0), .int .i64 (.ofNat 1)]),
  (1201, .cells 77 [.int .i64 (.ofNat 0), .int .i64 (.ofNat 2), .int .i64 (.ofNat 1), .int .i64 (.ofNat 1), .int .i64 (.ofNat 2), .int .i64 (.ofNat 1)]),
  (1209, .cells 84 [.int .u64 (.ofNat 2199023299073), .int .u32 (.ofNat 167772165), .int .i64 (.ofNat 0), .int .i64 (.ofNat 1)]),
  (1205, .cells 3 [.int .i64 (.ofNat 0), .int .i64 (.ofNat 1)]),
  (1203, .cells 72 [.int .i64 (.ofNat 0), .int .u32 (.ofNat 10), .int .u32 (.ofNat 2), .int .u32 (.ofNat 167772160), .int .i64 (.ofNat 24), .int .u32 (.ofNat 167772161), .int .i64 (.ofNat 0), .int .u32 (.ofNat 20), .int .u32 (.ofNat 3), .int .u32 (.ofNat 0), .int .i64 (.ofNat 0), .int .u32 (.ofNat 0)]),
  (1207, .cells 3 [.int .i64 (.ofNat 0)])],
  .tup [.int .i64 (.ofNat 0), .str [], .int .i64 (.ofNat 0)]⟩
set_option maxRecDepth 1000000 in
theorem e19_4_ok : memoOk env0 100000 19 1240 e19_4 = true := by kernel_rfl

noncomputable def e19_5 : Memo := ⟨[.agg [.int .i64 (.ofNat 2), .int .i64 (.ofNat 40), .slice 686 0 2 2 true 3, .slice 687 0 1 1 true 2, .slice 688 0 2 2 true 6, .slice 693 0 2 2 true 2, .slice 694 0 1 1 true 4, .nilSlice, .int .i64 (.ofNat 0), .int .i64 (.ofNat 0), .int .i64 (.ofNat 0), .bool false, .bool false, .int .i64 (.ofNat 3), .int .i64 (.ofNat 9), .int .i64 (.ofNat 100), .int .i64 (.ofNat 20), .int .i64 (.ofNat 5), .int .i64 (.ofNat 50)]],
  [(688, .cells 72 [.int .i64 (.ofNat 0), .int .u32 (.ofNat 10), .int .u32 (.ofNat 2), .int .u32 (.ofNat 167772160), .int .i64 (.ofNat 24), .int .u32 (.ofNat 167772161), .int .i64 (.ofNat 0), .int .u32 (.ofNat 20), .int .u32 (.ofNat 3), .int .u32 (.ofNat 0), .int .i64 (.ofNat 0), .int .u32 (.ofNat 0)]),
  (692, .cells 3 [.int .i64 (.ofNat 0)]),
  (690, .cells 3 [.int .i64 (.ofNat 0), .int .i64 (.ofNat 1)]),
  (694, .cells 84 [.int .u64 (.ofNat 2199023299073), .int .u32 (.ofNat 167772165), .int .i64 (.ofNat 0), .int .i64 (.ofNat 1)]),
  (686, .cells 77 [.int .i64 (.ofNat 0), .int .i64 (.ofNat 2), .int .i64 (.ofNat 1), .int .i64 (.ofNat 1), .int .i64 (.ofNat 2), .int .i64 (.ofNat 1)]),
  (689, .cells 3 [.int .i64 (.ofNat 0)]),
  (693, .cells 82 [.slice 689 0 1 1 true 1, .slice 690 0 2 2 true 1, .slice 691 0 2 2 true 1, .slice 692 0 1 1 true 1]),
  (691, .cells 3 [.int .i64 (.ofNat 0), .int .i64 (.ofNat 1)]),
  (687, .cells 79 [.int .u32 (.ofNat 100), .int .u32 (.ofNat 1)])],
  .tup [.int .i64 (.ofNat 2), .str [102, 97, 98, 114, 105, 99], .int .i64 (.ofNat 0)]⟩
set_option maxRecDepth 1000000 in
theorem e19_5_ok : memoOk env0 100000 19 1803 e19_5 = true := by kernel_rfl

noncomputable def xt1 : List (FuncId × ASpec) := (19, memoA [e19_0, e19_1, e19_2, e19_3, e19_4, e19_5]) :: xt0
noncomputable def env1 : Env := ⟨Tryz.prog, xt1, keep, [43], [19, 42, 4, 127, 117, 96, 60, 19]⟩

noncomputable def e42_0 : Memo := ⟨[.agg [.int .i64 (.ofNat 2), .int .i64 (.ofNat 1), .slice 2 0 2 2 true 3, .slice 3 0 1 1 true 2, .slice 4 0 2 2 true 6, .slice 9 0 2 2 true 2, .slice 10 0 1 1 true 4, .nilSlice, .int .i64 (.ofNat 0), .int .i64 (.ofNat 0), .int .i64 (.ofNat 0), .bool false, .bool false, .int .i64 (.ofNat 3), .int .i64 (.ofNat 9), .int .i64 (.ofNat 100), .int .i64 (.ofNat 20), .int .i64 (.ofNat 5), .int .i64 (.ofNat 50)]],
  [(8, .cells 3 [.int .i64 (.ofNat 0)]),
  (4, .cells 72 [.int .i64 (.ofNat 0), .int .u32 (.ofNat 10), .int .u32 (.ofNat 2), .int .u32 (.ofNat 167772160), .int .i64 (.ofNat 24), .int .u32 (.ofNat 167772161), .int .i64 (.ofNat 0), .int .u32 (.ofNat 20), .int .u32 (.ofNat 3), .int .u32 (.ofNat 0), .int .i64 (.ofNat 0), .int .u32 (.ofNat 0)]),
  (2, .cells 77 [.int .i64 (.ofNat 0), .int .i64 (.ofNat 2), .int .i64 (.ofNat 1), .int .i64 (.ofNat 1), .int .i64 (.ofNat 2), .int .i64 (.ofNat 1)]),
  (10, .cells 84 [.int .u64 (.ofNat 2199023299073), .int .u32 (.ofNat 167772165), .int .i64 (.ofNat 0), .int .i64 (.ofNat 1)]),
  (6, .cells 3 [.int .i64 (.ofNat 0), .int .i64 (.ofNat 1)]),
  (9, .cells 82 [.slice 5 0 1 1 true 1, .slice 6 0 2 2 true 1, .slice 7 0 2 2 true 1, .slice 8 0 1 1 true 1]),
  (5, .cells 3 [.int .i64 (.ofNat 0)]),
  (3, .cells 79 [.int .u32 (.ofNat 100), .int .u32 (.ofNat 1)]),
  (7, .cells 3 [.int .i64 (.ofNat 0), .int .i64 (.ofNat 1)])],
  .tup [.int .i64 (.ofNat 0), .str [], .int .i64 (.ofNat 0)]⟩
set_option maxRecDepth 1000000 in
theorem e42_0_ok : memoOk env1 100000 42 18 e42_0 = true := by kernel_rfl

noncomputable def e42_1 : Memo := ⟨[.agg [.int .i64 (.ofNat 2), .int .i64 (.ofNat 1), .slice 1 0 2 2 true 3, .slice 2 0 1 1 true 2, .slice 3 0 2 2 true 6, .slice 8 0 2 2 true 2, .slice 9 0 1 1 true 4, .nilSlice, .int .i64 (.ofNat 0), .int .i64 (.ofNat 0), .int .i64 (.ofNat 0), .bool false, .bool false, .int .i64 (.ofNat 3), .int .i64 (.ofNat 9), .int .i64 (.ofNat 100), .int .i64 (.ofNat 20), .int .i64 (.ofNat 5), .int .i64 (.ofNat 50)]],
  [(8, .cells 82 [.slice 4 0 1 1 true 1, .slice 5 0 2 2 true 1, .slice 6 0 2 2 true 1, .slice 7 0 1 1 true 1]),
  (4, .cells 3 [.int .i64 (.ofNat 0)]),
  (2, .cells 79 [.int .u32 (.ofNat 100), .int .u32 (.ofNat 1)]),
  (6, .cells 3 [.int .i64 (.ofNat 0), .int .i64 (.ofNat 1)]),
  (1, .cells 77 [.int .i64 (.ofNat 0), .int .i64 (.ofNat 2), .int .i64 (.ofNat 1), .int .i64 (.ofNat 1), .int .i64 (.ofNat 2), .int .i64 (.ofNat 1)]),
  (9, .cells 84 [.int .u64 (.ofNat 2199023299073), .int .u32 (.ofNat 167772165), .int .i64 (.ofNat 0), .int .i64 (.ofNat 1)]),
  (5, .cells 3 [.int .i64 (.ofNat 0), .int .i64 (.ofNat 1)]),
  (3, .cells 72 [.int .i64 (.ofNat 0), .int .u32 (.ofNat 10), .int .u32 (.ofNat 2), .int .u32 (.ofNat 167772160), .int .i64 (.ofNat 24), .int .u32 (.ofNat 167772161), .int .i64 (.ofNat 0), .int .u32 (.ofNat 20), .int .u32 (.ofNat 3), .int .u32 (.ofNat 0), .int .i64 (.ofNat 0), .int .u32 (.ofNat 0)]),
  (7, .cells 3 [.int .i64 (.ofNat 0)])],
  .tup [.int .i64 (.ofNat 0), .str [], .int .i64 (.ofNat 0)]⟩
set_option maxRecDepth 1000000 in
theorem e42_1_ok : memoOk env1 100000 42 13 e42_1 = true := by kernel_rfl

noncomputable def e42_2 : Memo := ⟨[.agg [.int .i64 (.ofNat 2), .int .i64 (.ofNat 1), .slice 15 0 2 2 true 3, .slice 16 0 1 1 true 2, .slice 17 0 2 2 true 6, .slice 22 0 2 2 true 2, .slice 23 0 1 1 true 4, .nilSlice, .int .i64 (.ofNat 0), .int .i64 (.ofNat 0), .int .i64 (.ofNat 0), .bool false, .bool false, .int .i64 (.ofNat 3), .int .i64 (.ofNat 9), .int .i64 (.ofNat 100), .int .i64 (.ofNat 20), .int .i64 (.ofNat 5), .int .i64 (.ofNat 50)]],
  [(16, .cells 79 [.int .u32 (.ofNat 100), .int .u32 (.ofNat 1)]),
  (20, .cells 3 [.int .i64 (.ofNat 0), .int .i64 (.ofNat 1)]),
  (18, .cells 3 [.int .i64 (.ofNat 0)]),
  (22, .cells 82 [.slice 18 0 1 1 true 1, .slice 19 0 2 2 true 1, .slice 20 0 2 2 true 1, .slice 21 0 1 1 true 1]),
  (17, .cells 72 [.int .i64 (.ofNat 0), .int .u32 (.ofNat 10), .int .u32 (.ofNat 2), .int .u32 (.ofNat 167772160), .int .i64 (.ofNat 24), .int .u32 (.ofNat 167772161), .int .i64 (.ofNat 0), .int .u32 (.ofNat 20), .int .u32 (.ofNat 3), .int .u32 (.ofNat 0), .int .i64 (.ofNat 0), .int .u32 (.ofNat 0)]),
  (21, .cells 3 [.int .i64 (.ofNat 0)]),
  (19, .cells 3 [.int .i64 (.ofNat 0), .int .i64 (.ofNat 1)]),
  (23, .cells 84 [.int .u64 (.ofNat 2199023299073), .int .u32 (.ofNat 167772165), .int .i64 (.ofNat 0), .int .i64 (.ofNat 1)]),
  (15, .cells 77 [.int .i64 (.ofNat 0), .int .i64 (.ofNat 2), .int .i64 (.ofNat 1), .int .i64 (.ofNat 1), .int .i64 (.ofNat 2), .int .i64 (.ofNat 1)])],
  .tup [.int .i64 (.ofNat 0), .str [], .int .i64 (.ofNat 0)]⟩
set_option maxRecDepth 1000000 in
theorem e42_2_ok : memoOk env1 100000 42 31 e42_2 = true := by kernel_rfl

noncomputable def e42_3 : Memo := ⟨[.agg [.int .i64 (.ofNat 2), .int .i64 (.ofNat 1), .slice 698 0 2 2 true 3, .slice 699 0 1 1 true 2, .slice 700 0 2 2 true 6, .slice 705 0 2 2 true 2, .slice 706 0 1 1 true 4, .nilSlice, .int .i64 (.ofNat 0), .int .i64 (.ofNat 0), .int .i64 (.ofNat 0), .bool false, .bool false, .int .i64 (.ofNat 3), .int .i64 (.ofNat 9), .int .i64 (.ofNat 100), .int .i64 (.ofNat 20), .int .i64 (.ofNat 5), .int .i64 (.ofNat 50)]],
  [(704, .cells 3 [.int .i64 (.ofNat 0)]),
  (700, .cells 72 [.int .i64 (.ofNat 0), .int .u32 (.ofNat 10), .int .u32 (.ofNat 2), .int .u32 (.ofNat 167772160), .int .i64 (.ofNat 24), .int .u32 (.ofNat 167772161), .int .i64 (.ofNat 0), .int .u32 (.ofNat 20), .int .u32 (.ofNat 3), .int .u32 (.ofNat 0), .int .i64 (.ofNat 0), .int .u32 (.ofNat 0)]),
  (706, .cells 84 [.int .u64 (.ofNat 2199023299073), .int .u32 (.ofNat 167772165), .int .i64 (.ofNat 0), .int .i64 (.ofNat 1)]),
  (698, .cells 77 [.int .i64 (.ofNat 0), .int .i64 (.ofNat 2), .int .i64 (.ofNat 1), .int .i64 (.ofNat 1), .int .i64 (.ofNat 2), .int .i64 (.ofNat 1)]),
  (702, .cells 3 [.int .i64 (.ofNat 0), .int .i64 (.ofNat 1)]),
  (705, .cells 82 [.slice 701 0 1 1 true 1, .slice 702 0 2 2 true 1, .slice 703 0 2 2 true 1, .slice 704 0 1 1 true 1]),
  (701, .cells 3 [.int .i64 (.ofNat 0)]),
  (699, .cells 79 [.int .u32 (.ofNat 100), .int .u32 (.ofNat 1)]),
  (703, .cells 3 [.int .i64 (.ofNat 0), .int .i64 (.ofNat 1)])],
  .tup [.int .i64 (.ofNat 0), .str [], .int .i64 (.ofNat 0)]⟩
set_option maxRecDepth 1000000 in
theorem e42_3_ok : memoOk env1 100000 42 714 e42_3 = true := by kernel_rfl

noncomputable def e42_4 : Memo := ⟨[.agg [.int .i64 (.ofNat 2), .int .i64 (.ofNat 1), .slice 1201 0 2 2 true 3, .slice 1202 0 1 1 true 2, .slice 1203 0 2 2 true 6, .slice 1208 0 2 2 true 2, .slice 1209 0 1 1 true 4, .nilSlice, .int .i64 (.ofNat 0), .int .i64 (.ofNat 0), .int .i64 (.ofNat 0), .bool false, .bool false, .int .i64 (.ofNat 3), .int .i64 (.ofNat 9), .int .i64 (.ofNat 100), .int .i64 (.ofNat 20), .int .i64 (.ofNat 5), .int .i64 (.ofNat 50)]],
  [(1208, .cells 82 [.slice 1204 0 1 1 true 1, .slice 1205 0 2 2 true 1, .slice 1206 0 2 2 true 1, .slice 1207 0 1 1 true 1]),
  (1204, .cells 3 [.int .i64 (.ofNat 0)]),
  (1202, .cells 79 [.int .u32 (.ofNat 100), .int .u32 (.ofNat 1)]),
  (1206, .cells 3 [.int .i64 (.ofNat 0), .int .i64 (.ofNat 1)]),
  (1201, .cells 77 [.int .i64 (.ofNat 0), .int .i64 (.ofNat 2), .int .i64 (.ofNat 1), .int .i64 (.ofNat 1), .int .i64 (.ofNat 2), .int .i64 (.ofNat 1)]),
  (1209, .cells 84 [.int .u64 (.ofNat 2199023299073), .int .u32 (.ofNat 167772165), .int .i64 (.ofNat 0), .int .i64 (.ofNat 1)]),
  (1205, .cells 3 [.int .i64 (.ofNat 0), .int .i64 (.ofNat 1)]),
  (1203, .cells 72 [.int .i64 (.ofNat 0), .int .u32 (.ofNat 10), .int .u32 (.ofNat 2), .int .u32 (.ofNat 167772160), .int .i64 (.ofNat 24), .int .u32 (.ofNat 167772161), .int .i64 (.ofNat 0), .int .u32 (.ofNat 20), .int .u32 (.ofNat 3), .int .u32 (.ofNat 0), .int .i64 (.ofNat 0), .int .u32 (.ofNat 0)]),
  (1207, .cells 3 [.int .i64 (.ofNat 0)])],
  .tup [.int .i64 (.ofNat 0), .str [], .int .i64 (.ofNat 0)]⟩
set_option maxRecDepth 1000000 in
theorem e42_4_ok : memoOk env1 100000 42 1217 e42_4 = true := by kernel_rfl

noncomputable def xt2 : List (FuncId × ASpec) := (42, memoA [e42_0, e42_1, e42_2, e42_3, e42_4]) :: xt1
noncomputable def env2 : Env := ⟨Tryz.prog, xt2, keep, [43], [19, 42, 4, 127, 117, 96, 60, 19]⟩

noncomputable def e4_0 : Memo := ⟨[],
  [],
  .bool true⟩
set_option maxRecDepth 1000000 in
theorem e4_0_ok : memoOk env2 100000 4 0 e4_0 = true := by kernel_rfl

noncomputable def xt3 : List (FuncId × ASpec) := (4, memoA [e4_0]) :: xt2
noncomputable def env3 : Env := ⟨Tryz.prog, xt3, keep, [43], [19, 42, 4, 127, 117, 96, 60, 19]⟩

end Go.Proofs.YtfllojcmckefjahGreat.MemoInstallNames
