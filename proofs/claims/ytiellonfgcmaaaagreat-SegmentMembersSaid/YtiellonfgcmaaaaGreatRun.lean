/- The run of 'leafmesh/leafmeshlaw25.SegmentKnown', carried out by the abstract evaluator in the kernel: it comes to 'true'. Nothing is asked. -/
import Derived.Test.YtiellonfgcmaaaaGreatMemo
namespace Go.Proofs.YtiellonfgcmaaaaGreat.Run
open Go.Ce

set_option maxRecDepth 1000000 in
theorem run : isTrue (runA Memo.env0 200000 19 []) = true := by kernel_rfl

end Go.Proofs.YtiellonfgcmaaaaGreat.Run
