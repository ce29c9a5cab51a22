/- Calls that are made again and again, carried out once each by the abstract evaluator in the kernel. Nothing is asked. -/
import Derived.Test.YtiellonfgcmaaaaGreatProg
import Derived.Test.YtiellonfgcmaaaaGreatCeA
import Derived.KernelRfl
namespace Go.Proofs.YtiellonfgcmaaaaGreat.Memo
open Go.Ce

/-- A hint alone: which temporaries to keep. -/
def keep : List Nat := [0, 0, 0, 1019, 1048335, 1048519, 4083, 65479, 1007, 13, 1, 29, 474619, 16379, 51, 51, 7355, 443, 51, 15, 509, 19, 13, 4093, 51, 3940650076725047, 55, 23, 51, 13, 29, 3527, 15, 130871, 303, 815, 5, 455, 5, 1807, 7, 1979, 61, 19, 15, 19, 31, 115, 125, 123, 5, 61, 31, 1807, 3, 29, 19, 967, 199, 967, 983, 59, 115, 1610620127, 23, 15, 13, 1, 8191, 23, 55, 967, 27, 7, 471, 5, 435, 2096159, 5, 5, 115, 524047, 31, 51, 3, 19, 2167, 7, 15, 71, 19, 27, 28851, 15, 51, 17, 28851, 7, 7, 7, 207, 15, 71, 13, 1011, 443, 5, 5, 5, 435, 15, 119, 7, 783, 7951, 7943, 36028797018996495, 775, 7951, 7199, 15391, 5, 5, 31, 31, 199, 1991, 1991, 562949953429447, 199, 1991, 19, 1807, 3855, 51, 51, 6323, 199, 7, 7, 15, 7, 15, 1083461986899718795570449239, 111, 7, 239, 119, 119, 1015, 2039, 1975, 119, 1, 5, 3103, 5, 5, 271, 4151, 783, 71, 1047, 3, 127, 7, 71, 127, 7, 7, 19, 15, 127, 7, 7, 31, 23, 19, 15, 23, 109, 19, 71, 5, 13, 19, 15, 27, 31, 23, 7, 31, 13, 51, 5, 13, 493, 3103, 783, 199, 19, 63, 63, 435, 63, 15, 7, 435, 7, 19, 435, 435, 443, 15, 7, 5, 435, 0, 0, 0, 0, 0, 0, 0, 0, 0, 0, 0, 0, 0, 0, 0, 0, 0]

noncomputable def xt0 : List (FuncId × ASpec) := []
noncomputable def env0 : Env := ⟨Tryz.prog, xt0, keep, [86], [63]⟩

end Go.Proofs.YtiellonfgcmaaaaGreat.Memo
