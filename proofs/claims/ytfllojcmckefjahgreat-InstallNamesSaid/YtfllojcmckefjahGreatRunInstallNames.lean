/- The law's run, carried out by the abstract evaluator in the kernel: it comes to 'true'. Nothing is asked. -/
import Derived.Test.YtfllojcmckefjahGreatMemoInstallNames
namespace Go.Proofs.YtfllojcmckefjahGreat.RunInstallNames
open Go.Ce

set_option maxRecDepth 1000000 in
theorem run : isTrue (runA MemoInstallNames.env3 100000 3 []) = true := by kernel_rfl

end Go.Proofs.YtfllojcmckefjahGreat.RunInstallNames
