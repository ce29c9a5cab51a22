/- The law's run, carried out by the abstract evaluator in the kernel: it comes to 'true'. Nothing is asked. -/
import Derived.Test.YtfllojcmckefjafGreatMemoAliasNames
namespace Go.Proofs.YtfllojcmckefjafGreat.RunAliasNames
open Go.Ce

set_option maxRecDepth 1000000 in
theorem run : isTrue (runA MemoAliasNames.env2 100000 3 []) = true := by kernel_rfl

end Go.Proofs.YtfllojcmckefjafGreat.RunAliasNames
