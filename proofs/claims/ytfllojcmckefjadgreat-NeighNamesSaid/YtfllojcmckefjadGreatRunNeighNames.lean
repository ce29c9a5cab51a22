/- The law's run, carried out by the abstract evaluator in the kernel: it comes to 'true'. Nothing is asked. -/
import Derived.Test.YtfllojcmckefjadGreatProg
import Derived.Test.YtfllojcmckefjadGreatCeA
import Derived.KernelRfl
namespace Go.Proofs.YtfllojcmckefjadGreat.RunNeighNames
open Go.Ce

/-- A hint alone: which temporaries to keep. -/
def keep : List Nat := [0, 0, 0, 396285115743, 7, 1, 32735, 783, 71, 6127, 5115255730658741750961086665124339134651597959967, 51, 7, 119, 281474976710687, 5, 27, 14515, 31, 31, 435, 31, 13, 55, 1610620127, 127, 31, 799, 55, 61, 1005, 55, 3279, 51, 7, 31, 493, 115, 115, 23, 5, 7, 7, 2167, 7, 15, 8031, 31, 19, 31, 31, 115, 31, 31, 31, 115, 19, 15, 71, 13, 471, 5, 7, 119, 5, 61, 2015, 7, 5, 19, 43, 5, 5, 19, 11, 7, 7, 15, 7, 15, 1083461986899718795570449239, 111, 7, 5, 5, 435, 435, 15, 5, 1, 524047, 5, 435, 31, 247, 2096159, 435, 127, 7, 71, 127, 7, 7, 19, 15, 127, 7, 31, 23, 19, 15, 23, 109, 71, 19, 15, 27, 493, 199, 1991, 1991, 562949953429447, 199, 1991, 19, 1807, 3855, 5, 5, 783, 7951, 7943, 36028797018996495, 775, 7951, 7199, 15391, 19, 63, 63, 435, 63, 15, 7, 7, 19, 435, 443, 783, 5, 5, 71, 1047, 3103, 271, 4151, 435, 783, 3103, 0, 0, 0, 0, 0, 0, 0, 0, 0, 0, 0, 0, 0, 0, 0, 0, 0]

noncomputable def env : Env := ⟨Tryz.prog, [], keep, [43], [33]⟩

set_option maxRecDepth 1000000 in
theorem run : isTrue (runA env 100000 3 []) = true := by kernel_rfl

end Go.Proofs.YtfllojcmckefjadGreat.RunNeighNames
