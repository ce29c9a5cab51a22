/- The law's run, carried out by the abstract evaluator in the kernel: it comes to 'true'. Nothing is asked. -/
import Derived.Test.YtfllojcmckefjaaGreatProg
import Derived.Test.YtfllojcmckefjaaGreatCeA
import Derived.KernelRfl
namespace Go.Proofs.YtfllojcmckefjaaGreat.Run
open Go.Ce

/-- A hint alone: which temporaries to keep. -/
def keep : List Nat := [0, 0, 0, 5599, 111, 125, 110680472344999163343, 3, 288230376151711759, 15, 1073741887, 262141, 255, 1, 19, 63, 199, 71, 7, 243, 5, 5, 5, 5, 5, 115, 5, 237, 1, 15, 13, 29, 13, 13, 13, 13, 13, 13, 14429, 61, 2079, 15, 11, 11, 199, 11, 71, 11, 11, 71, 11, 199, 123, 12339, 1, 5, 7677, 123, 3145755, 31, 8388851, 5, 5, 5, 469762803, 51, 7, 19, 493, 5, 5, 493, 234884973, 1901, 7, 5, 7, 511, 55, 5, 3, 19, 191, 59, 5, 13, 19, 5, 199, 5, 0, 0, 0, 0, 0, 0, 0, 0, 0, 0, 0, 0, 0, 0, 0, 0, 27, 19, 39, 5, 11, 19, 19, 19, 59, 19, 39, 5, 45, 19, 19, 7, 27, 19, 39, 27, 19, 39, 27, 19, 39, 0, 0]

noncomputable def env : Env := ⟨Tryz.prog, [], keep⟩

set_option maxRecDepth 1000000 in
theorem run : isTrue (runA env 100000 3 []) = true := by kernel_rfl

end Go.Proofs.YtfllojcmckefjaaGreat.Run
