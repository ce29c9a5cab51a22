/- The run of 'leafmesh/leafmeshlaw30.lives', carried out by the abstract evaluator in the kernel: it comes to 'true'. Nothing is asked. -/
import Derived.Test.YthnnleinkflhjaaGreatMemo
namespace Go.Proofs.YthnnleinkflhjaaGreat.Run
open Go.Ce

set_option maxRecDepth 1000000 in
theorem run : isTrue (runA Memo.env0 100000 4 []) = true := by kernel_rfl

end Go.Proofs.YthnnleinkflhjaaGreat.Run
