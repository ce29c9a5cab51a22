/- Calls that are made again and again, carried out once each by the abstract evaluator in the kernel. Nothing is asked. -/
import Derived.Test.YthnnleinkflhjaaGreatProg
import Derived.Test.YthnnleinkflhjaaGreatCeA
import Derived.KernelRfl
namespace Go.Proofs.YthnnleinkflhjaaGreat.Memo
open Go.Ce

/-- A hint alone: which temporaries to keep. -/
def keep : List Nat := [0, 0, 0, 4039, 7, 503, 23, 1, 16725558898969510454602023424246202942976799, 15, 51, 55, 3911, 111, 23, 7, 5, 1610620127, 55, 7415, 31, 123, 3678191, 5, 7, 31, 19, 31, 493, 115, 31, 13, 19, 15, 71, 13, 7, 19, 2167, 7, 15, 15, 71, 13, 19, 28919, 23, 19, 63, 1005, 19, 131007, 4063, 247, 83, 2096159, 5, 5, 115, 71, 8191, 7, 7, 15, 7, 15, 1083461986899718795570449239, 111, 7, 435, 435, 5, 115, 23, 31, 7, 119, 5, 61, 435, 47, 479, 13, 23, 783, 7951, 7943, 36028797018996495, 775, 7951, 7199, 15391, 5, 5, 5, 7, 7, 207, 127, 7, 71, 127, 7, 7, 19, 15, 127, 7, 7, 31, 23, 19, 15, 109, 71, 5, 13, 19, 15, 27, 5, 61, 71, 115, 19, 115, 5, 5, 1, 524047, 255, 471, 5, 3103, 5, 5, 271, 4151, 119, 119, 1015, 2039, 1975, 119, 19, 63, 63, 435, 63, 15, 7, 435, 435, 443, 471, 5, 5, 0, 5, 493, 199, 1991, 1991, 562949953429447, 199, 1991, 19, 1807, 3855, 127, 23, 55, 435, 15, 3103, 31, 7, 31, 13, 51, 5, 13, 435, 15, 783, 71, 1047, 5, 29, 23, 15, 783, 493, 3, 199, 0, 0, 0, 0, 0, 0, 0, 0, 0, 0, 0, 0, 0, 0, 0, 0, 0]

noncomputable def xt0 : List (FuncId × ASpec) := [(157, cmpA)]
noncomputable def env0 : Env := ⟨Tryz.prog, xt0, keep, [38], [17, 8]⟩

end Go.Proofs.YthnnleinkflhjaaGreat.Memo
