/- 'leafmesh/leafmeshlaw25.SegmentKnown' returns true, whatever the world that it begins in, and leaves all that was there as it was: the evaluator's run, and its soundness. Nothing is asked. -/
import Derived.Test.YtiellonfgcmaaaaGreatChecked
import Derived.Below
import Derived.Test.YtiellonfgcmaaaaGreatCeX
import Derived.Test.YtiellonfgcmaaaaGreatRun
namespace Go.Proofs.YtiellonfgcmaaaaGreat
open Go.RowKit

set_option maxHeartbeats 4000000 in
set_option maxRecDepth 100000 in
theorem all0 : ∀ q ∈ Memo.xt0, Ce.SpecOk Tryz.prog q.1 q.2 := Ce.all_nil

set_option maxHeartbeats 4000000 in
set_option maxRecDepth 100000 in
theorem awake_any (w : World) : Calls Tryz.prog 19 #[] w fun e w' => e = .returned (.bool true) ∧ Below w.heap.size w w' :=
  Ce.closed (E := Memo.env0) (k := 200000) Tryz.checked.mixed rfl (Ce.xt_all all0) rfl rfl Run.run w

end Go.Proofs.YtiellonfgcmaaaaGreat
