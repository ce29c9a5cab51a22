/- Calls that the law makes again and again, carried out once each by the abstract evaluator in the kernel. Nothing is asked. -/
import Derived.Test.YtfllojcmckefjafGreatProg
import Derived.Test.YtfllojcmckefjafGreatCeA
import Derived.KernelRfl
namespace Go.Proofs.YtfllojcmckefjafGreat.MemoAliasNames
open Go.Ce

/-- A hint alone: which temporaries to keep. -/
def keep : List Nat := [0, 0, 0, 8191, 7, 1, 63, 55, 55, 15032643391, 29, 2166395068749415488591214367, 7, 19, 51, 13279, 7345951, 19, 23, 13, 15, 71, 13, 55, 55, 206159355343, 51, 7, 31, 19, 28919, 47, 287, 115, 31, 7, 243, 11, 255, 31, 55, 23, 7, 7, 71, 5, 1610620127, 127, 7, 31, 95, 60324819, 7355, 19, 7, 8191, 15, 71, 13, 5, 19, 43, 493, 115, 115, 435, 19, 115, 31, 435, 127, 23, 29, 61, 43, 5, 5, 5, 2167, 7, 15, 975, 19, 1005, 1979, 5, 61, 435, 5, 5, 5, 7, 7, 207, 247, 2096159, 5, 5, 5, 435, 5, 115, 31, 5, 23, 3, 471, 5, 7, 7, 15, 7, 15, 1083461986899718795570449239, 111, 7, 435, 7, 119, 5, 61, 524047, 119, 119, 1015, 2039, 1975, 119, 783, 7951, 7943, 36028797018996495, 775, 7951, 7199, 15391, 5, 5, 5, 71, 115, 19, 5, 31, 493, 199, 435, 15, 127, 7, 71, 127, 7, 7, 19, 15, 127, 7, 7, 31, 23, 19, 15, 23, 109, 71, 5, 13, 19, 15, 27, 5, 1, 524047, 199, 1991, 1991, 562949953429447, 199, 1991, 19, 1807, 3855, 31, 23, 7, 31, 13, 51, 5, 13, 3103, 5, 5, 271, 4151, 5, 0, 19, 63, 63, 435, 63, 15, 7, 435, 7, 19, 435, 443, 493, 199, 1991, 1991, 562949953429447, 199, 1991, 19, 1807, 3855, 783, 71, 1047, 15, 7, 5, 3103, 435, 783, 71, 1047, 783, 783, 0, 0, 0, 0, 0, 0, 0, 0, 0, 0, 0, 0, 0, 0, 0, 0, 0]

noncomputable def xt0 : List (FuncId × ASpec) := [(197, cmpA)]
noncomputable def env0 : Env := ⟨Tryz.prog, xt0, keep, [78], [46, 55, 46, 26]⟩

noncomputable def e46_0 : Memo := ⟨[.agg [.int .i64 (.ofNat 2), .int .i64 (.ofNat 1), .slice 1 0 2 2 true 3, .slice 2 0 1 1 true 2, .slice 3 0 2 2 true 6, .slice 8 0 2 2 true 2, .slice 9 0 1 1 true 4, .nilSlice, .int .i64 (.ofNat 0), .int .i64 (.ofNat 0), .int .i64 (.ofNat 0), .bool false, .bool false, .int .i64 (.ofNat 3), .int .i64 (.ofNat 9), .int .i64 (.ofNat 100), .int .i64 (.ofNat 20), .int .i64 (.ofNat 5), .int .i64 (.ofNat 50)]],
  [(8, .cells 85 [.slice 4 0 1 1 true 1, .slice 5 0 2 2 true 1, .slice 6 0 2 2 true 1, .slice 7 0 1 1 true 1]),
  (4, .cells 3 [.int .i64 (.ofNat 0)]),
  (2, .cells 80 [.int .u32 (.ofNat 100), .int .u32 (.ofNat 1)]),
  (6, .cells 3 [.int .i64 (.ofNat 0), .int .i64 (.ofNat 1)]),
  (1, .cells 78 [.int .i64 (.ofNat 0), .int .i64 (.ofNat 2), .int .i64 (.ofNat 1), .int .i64 (.ofNat 1), .int .i64 (.ofNat 2), .int .i64 (.ofNat 1)]),
  (9, .cells 87 [.int .u64 (.ofNat 2199023299073), .int .u32 (.ofNat 167772165), .int .i64 (.ofNat 0), .int .i64 (.ofNat 1)]),
  (5, .cells 3 [.int .i64 (.ofNat 0), .int .i64 (.ofNat 1)]),
  (3, .cells 82 [.int .i64 (.ofNat 0), .int .u32 (.ofNat 10), .int .u32 (.ofNat 2), .int .u32 (.ofNat 167772160), .int .i64 (.ofNat 24), .int .u32 (.ofNat 167772161), .int .i64 (.ofNat 0), .int .u32 (.ofNat 20), .int .u32 (.ofNat 3), .int .u32 (.ofNat 0), .int .i64 (.ofNat 0), .int .u32 (.ofNat 0)]),
  (7, .cells 3 [.int .i64 (.ofNat 0)])],
  .tup [.int .i64 (.ofNat 0), .str [], .int .i64 (.ofNat 0)]⟩
set_option maxRecDepth 1000000 in
theorem e46_0_ok : memoOk env0 100000 46 30 e46_0 = true := by kernel_rfl

noncomputable def e46_1 : Memo := ⟨[.agg [.int .i64 (.ofNat 2), .int .i64 (.ofNat 1), .slice 202 0 2 2 true 3, .slice 203 0 1 1 true 2, .slice 204 0 2 2 true 6, .slice 209 0 2 2 true 2, .slice 210 0 1 1 true 4, .nilSlice, .int .i64 (.ofNat 0), .int .i64 (.ofNat 0), .int .i64 (.ofNat 0), .bool false, .bool false, .int .i64 (.ofNat 3), .int .i64 (.ofNat 9), .int .i64 (.ofNat 100), .int .i64 (.ofNat 20), .int .i64 (.ofNat 5), .int .i64 (.ofNat 50)]],
  [(208, .cells 3 [.int .i64 (.ofNat 0)]),
  (204, .cells 82 [.int .i64 (.ofNat 0), .int .u32 (.ofNat 10), .int .u32 (.ofNat 2), .int .u32 (.ofNat 167772160), .int .i64 (.ofNat 24), .int .u32 (.ofNat 167772161), .int .i64 (.ofNat 0), .int .u32 (.ofNat 20), .int .u32 (.ofNat 3), .int .u32 (.ofNat 0), .int .i64 (.ofNat 0), .int .u32 (.ofNat 0)]),
  (210, .cells 87 [.int .u64 (.ofNat 2199023299073), .int .u32 (.ofNat 167772165), .int .i64 (.ofNat 0), .int .i64 (.ofNat 1)]),
  (202, .cells 78 [.int .i64 (.ofNat 0), .int .i64 (.ofNat 2), .int .i64 (.ofNat 1), .int .i64 (.ofNat 1), .int .i64 (.ofNat 2), .int .i64 (.ofNat 1)]),
  (206, .cells 3 [.int .i64 (.ofNat 0), .int .i64 (.ofNat 1)]),
  (209, .cells 85 [.slice 205 0 1 1 true 1, .slice 206 0 2 2 true 1, .slice 207 0 2 2 true 1, .slice 208 0 1 1 true 1]),
  (205, .cells 3 [.int .i64 (.ofNat 0)]),
  (203, .cells 80 [.int .u32 (.ofNat 100), .int .u32 (.ofNat 1)]),
  (207, .cells 3 [.int .i64 (.ofNat 0), .int .i64 (.ofNat 1)])],
  .tup [.int .i64 (.ofNat 0), .str [], .int .i64 (.ofNat 0)]⟩
set_option maxRecDepth 1000000 in
theorem e46_1_ok : memoOk env0 100000 46 241 e46_1 = true := by kernel_rfl

noncomputable def e46_2 : Memo := ⟨[.agg [.int .i64 (.ofNat 0), .int .i64 (.ofNat 1), .slice 869 0 2 2 true 3, .slice 870 0 1 1 true 2, .slice 871 0 2 2 true 6, .slice 876 0 2 2 true 2, .slice 877 0 1 1 true 4, .nilSlice, .int .i64 (.ofNat 0), .int .i64 (.ofNat 0), .int .i64 (.ofNat 0), .bool false, .bool false, .int .i64 (.ofNat 3), .int .i64 (.ofNat 9), .int .i64 (.ofNat 100), .int .i64 (.ofNat 20), .int .i64 (.ofNat 5), .int .i64 (.ofNat 50)]],
  [(872, .cells 3 [.int .i64 (.ofNat 0)]),
  (876, .cells 85 [.slice 872 0 1 1 true 1, .slice 873 0 2 2 true 1, .slice 874 0 2 2 true 1, .slice 875 0 1 1 true 1]),
  (874, .cells 3 [.int .i64 (.ofNat 0), .int .i64 (.ofNat 1)]),
  (870, .cells 80 [.int .u32 (.ofNat 100), .int .u32 (.ofNat 1)]),
  (873, .cells 3 [.int .i64 (.ofNat 0), .int .i64 (.ofNat 1)]),
  (869, .cells 78 [.int .i64 (.ofNat 0), .int .i64 (.ofNat 2), .int .i64 (.ofNat 1), .int .i64 (.ofNat 1), .int .i64 (.ofNat 2), .int .i64 (.ofNat 1)]),
  (877, .cells 87 [.int .u64 (.ofNat 2199023299073), .int .u32 (.ofNat 167772165), .int .i64 (.ofNat 0), .int .i64 (.ofNat 1)]),
  (875, .cells 3 [.int .i64 (.ofNat 0)]),
  (871, .cells 82 [.int .i64 (.ofNat 0), .int .u32 (.ofNat 10), .int .u32 (.ofNat 2), .int .u32 (.ofNat 167772160), .int .i64 (.ofNat 24), .int .u32 (.ofNat 167772161), .int .i64 (.ofNat 0), .int .u32 (.ofNat 20), .int .u32 (.ofNat 3), .int .u32 (.ofNat 0), .int .i64 (.ofNat 0), .int .u32 (.ofNat 0)])],
  .tup [.int .i64 (.ofNat 2), .str [102, 97, 98, 114, 105, 99], .int .i64 (.ofNat 0)]⟩
set_option maxRecDepth 1000000 in
theorem e46_2_ok : memoOk env0 100000 46 1007 e46_2 = true := by kernel_rfl

noncomputable def xt1 : List (FuncId × ASpec) := (46, memoA [e46_0, e46_1, e46_2]) :: xt0
noncomputable def env1 : Env := ⟨Tryz.prog, xt1, keep, [78], [46, 55, 46, 26]⟩

noncomputable def e55_0 : Memo := ⟨[.agg [.int .i64 (.ofNat 2), .int .i64 (.ofNat 1), .slice 1 0 2 2 true 3, .slice 2 0 1 1 true 2, .slice 3 0 2 2 true 6, .slice 8 0 2 2 true 2, .slice 9 0 1 1 true 4, .nilSlice, .int .i64 (.ofNat 0), .int .i64 (.ofNat 0), .int .i64 (.ofNat 0), .bool false, .bool false, .int .i64 (.ofNat 3), .int .i64 (.ofNat 9), .int .i64 (.ofNat 100), .int .i64 (.ofNat 20), .int .i64 (.ofNat 5), .int .i64 (.ofNat 50)]],
  [(8, .cells 85 [.slice 4 0 1 1 true 1, .slice 5 0 2 2 true 1, .slice 6 0 2 2 true 1, .slice 7 0 1 1 true 1]),
  (4, .cells 3 [.int .i64 (.ofNat 0)]),
  (2, .cells 80 [.int .u32 (.ofNat 100), .int .u32 (.ofNat 1)]),
  (6, .cells 3 [.int .i64 (.ofNat 0), .int .i64 (.ofNat 1)]),
  (1, .cells 78 [.int .i64 (.ofNat 0), .int .i64 (.ofNat 2), .int .i64 (.ofNat 1), .int .i64 (.ofNat 1), .int .i64 (.ofNat 2), .int .i64 (.ofNat 1)]),
  (9, .cells 87 [.int .u64 (.ofNat 2199023299073), .int .u32 (.ofNat 167772165), .int .i64 (.ofNat 0), .int .i64 (.ofNat 1)]),
  (5, .cells 3 [.int .i64 (.ofNat 0), .int .i64 (.ofNat 1)]),
  (3, .cells 82 [.int .i64 (.ofNat 0), .int .u32 (.ofNat 10), .int .u32 (.ofNat 2), .int .u32 (.ofNat 167772160), .int .i64 (.ofNat 24), .int .u32 (.ofNat 167772161), .int .i64 (.ofNat 0), .int .u32 (.ofNat 20), .int .u32 (.ofNat 3), .int .u32 (.ofNat 0), .int .i64 (.ofNat 0), .int .u32 (.ofNat 0)]),
  (7, .cells 3 [.int .i64 (.ofNat 0)])],
  .tup [.int .i64 (.ofNat 0), .str [], .int .i64 (.ofNat 0)]⟩
set_option maxRecDepth 1000000 in
theorem e55_0_ok : memoOk env1 100000 55 17 e55_0 = true := by kernel_rfl

noncomputable def e55_1 : Memo := ⟨[.agg [.int .i64 (.ofNat 2), .int .i64 (.ofNat 1), .slice 202 0 2 2 true 3, .slice 203 0 1 1 true 2, .slice 204 0 2 2 true 6, .slice 209 0 2 2 true 2, .slice 210 0 1 1 true 4, .nilSlice, .int .i64 (.ofNat 0), .int .i64 (.ofNat 0), .int .i64 (.ofNat 0), .bool false, .bool false, .int .i64 (.ofNat 3), .int .i64 (.ofNat 9), .int .i64 (.ofNat 100), .int .i64 (.ofNat 20), .int .i64 (.ofNat 5), .int .i64 (.ofNat 50)]],
  [(208, .cells 3 [.int .i64 (.ofNat 0)]),
  (204, .cells 82 [.int .i64 (.ofNat 0), .int .u32 (.ofNat 10), .int .u32 (.ofNat 2), .int .u32 (.ofNat 167772160), .int .i64 (.ofNat 24), .int .u32 (.ofNat 167772161), .int .i64 (.ofNat 0), .int .u32 (.ofNat 20), .int .u32 (.ofNat 3), .int .u32 (.ofNat 0), .int .i64 (.ofNat 0), .int .u32 (.ofNat 0)]),
  (210, .cells 87 [.int .u64 (.ofNat 2199023299073), .int .u32 (.ofNat 167772165), .int .i64 (.ofNat 0), .int .i64 (.ofNat 1)]),
  (202, .cells 78 [.int .i64 (.ofNat 0), .int .i64 (.ofNat 2), .int .i64 (.ofNat 1), .int .i64 (.ofNat 1), .int .i64 (.ofNat 2), .int .i64 (.ofNat 1)]),
  (206, .cells 3 [.int .i64 (.ofNat 0), .int .i64 (.ofNat 1)]),
  (209, .cells 85 [.slice 205 0 1 1 true 1, .slice 206 0 2 2 true 1, .slice 207 0 2 2 true 1, .slice 208 0 1 1 true 1]),
  (205, .cells 3 [.int .i64 (.ofNat 0)]),
  (203, .cells 80 [.int .u32 (.ofNat 100), .int .u32 (.ofNat 1)]),
  (207, .cells 3 [.int .i64 (.ofNat 0), .int .i64 (.ofNat 1)])],
  .tup [.int .i64 (.ofNat 0), .str [], .int .i64 (.ofNat 0)]⟩
set_option maxRecDepth 1000000 in
theorem e55_1_ok : memoOk env1 100000 55 217 e55_1 = true := by kernel_rfl

noncomputable def xt2 : List (FuncId × ASpec) := (55, memoA [e55_0, e55_1]) :: xt1
noncomputable def env2 : Env := ⟨Tryz.prog, xt2, keep, [78], [46, 55, 46, 26]⟩

end Go.Proofs.YtfllojcmckefjafGreat.MemoAliasNames
