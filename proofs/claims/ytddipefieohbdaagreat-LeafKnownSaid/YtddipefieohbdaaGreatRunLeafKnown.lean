/- The law's run, carried out by the abstract evaluator in the kernel: it comes to 'true'. Nothing is asked. -/
import Derived.Test.YtddipefieohbdaaGreatMemoLeafKnown
namespace Go.Proofs.YtddipefieohbdaaGreat.RunLeafKnown
open Go.Ce

set_option maxRecDepth 1000000 in
theorem run : isTrue (runA MemoLeafKnown.env2 100000 3 []) = true := by kernel_rfl

end Go.Proofs.YtddipefieohbdaaGreat.RunLeafKnown
