/- The law's run, carried out by the abstract evaluator in the kernel: it comes to 'true'. Nothing is asked. -/
import Derived.Test.YtfllojcmckefjacGreatProg
import Derived.Test.YtfllojcmckefjacGreatCeA
import Derived.KernelRfl
namespace Go.Proofs.YtfllojcmckefjacGreat.RunSegmentKnown
open Go.Ce

/-- A hint alone: which temporaries to keep. -/
def keep : List Nat := [0, 0, 0, 15, 7355, 5, 13, 1807, 5, 13, 455, 1807, 1, 51, 3940650076725047, 3, 1979, 5, 61, 29, 3527, 13, 474619, 51, 51, 51, 1610620127, 23, 55, 524047, 5, 3, 1, 61, 19, 15, 19, 31, 115, 6323, 2167, 7, 15, 23, 15, 199, 1991, 1991, 562949953429447, 199, 1991, 19, 1807, 3855, 5, 5, 199, 19, 27, 28851, 15, 51, 17, 28851, 7, 471, 5, 435, 2096159, 5, 3, 1, 7, 7, 15, 7, 15, 1083461986899718795570449239, 111, 7, 71, 783, 5, 5, 71, 1047, 239, 435, 15, 119, 7, 783, 7951, 7943, 36028797018996495, 775, 7951, 7199, 15391, 199, 127, 7, 71, 127, 7, 7, 19, 15, 127, 7, 7, 31, 23, 19, 15, 23, 109, 19, 71, 5, 13, 19, 15, 27, 783, 5, 3103, 271, 4151, 19, 63, 63, 435, 63, 15, 7, 435, 7, 19, 435, 435, 443, 493, 3103, 435, 0, 0, 0, 0, 0, 0, 0, 0, 0, 0, 0, 0, 0, 0, 0, 0, 0]

noncomputable def env : Env := ⟨Tryz.prog, [], keep, [40]⟩

set_option maxRecDepth 1000000 in
theorem run : isTrue (runA env 200000 3 []) = true := by kernel_rfl

end Go.Proofs.YtfllojcmckefjacGreat.RunSegmentKnown
