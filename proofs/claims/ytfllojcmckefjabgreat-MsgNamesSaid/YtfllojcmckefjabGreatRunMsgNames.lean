/- The law's run, carried out by the abstract evaluator in the kernel: it comes to 'true'. Nothing is asked. -/
import Derived.Test.YtfllojcmckefjabGreatProg
import Derived.Test.YtfllojcmckefjabGreatCeA
import Derived.KernelRfl
namespace Go.Proofs.YtfllojcmckefjabGreat.RunMsgNames
open Go.Ce

/-- A hint alone: which temporaries to keep. -/
def keep : List Nat := [0, 0, 0, 63782911, 31, 127, 1, 307, 3837, 115, 23, 7, 1126999487939071, 234884973, 1, 7, 5, 7, 562949953421567, 127, 234884973, 1, 19, 4083, 79228162514264337593543950847, 7, 19, 2547, 15, 110680472344999163343, 13, 19, 19, 19, 19, 5, 19, 1011, 0, 19, 8189, 262141, 288230376151711759, 255, 1, 199, 5, 115, 16371, 5, 5, 5, 230269, 11, 435, 7, 12339, 7, 7, 7, 243, 5, 5, 5, 115, 5, 237, 1, 15, 13, 29, 13, 13, 13, 13, 13, 13, 14429, 61, 469762803, 115, 11, 11, 199, 11, 71, 11, 11, 71, 11, 199, 123, 1, 7677, 123, 3145755, 31, 8388851, 5, 5, 51, 7, 19, 493, 5, 5, 493, 1901, 7, 511, 55, 5, 3, 191, 59, 5, 19, 0, 0, 0, 0, 0, 0, 0, 0, 0, 0, 0, 0, 0, 0, 0, 0, 0, 27, 19, 39, 5, 11, 19, 59, 19, 39, 5, 45, 19, 7, 27, 19, 39, 27, 19, 39, 27, 19, 39, 0]

noncomputable def env : Env := ⟨Tryz.prog, [(38, noZeroA 5)], keep⟩

set_option maxRecDepth 1000000 in
theorem run : isTrue (runA env 100000 3 []) = true := by kernel_rfl

end Go.Proofs.YtfllojcmckefjabGreat.RunMsgNames
