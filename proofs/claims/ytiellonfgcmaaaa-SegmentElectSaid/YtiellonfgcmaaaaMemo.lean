/- Calls that are made again and again, carried out once each by the abstract evaluator in the kernel. Nothing is asked. -/
import Derived.Test.YtiellonfgcmaaaaProg
import Derived.Test.YtiellonfgcmaaaaCeA
import Derived.KernelRfl
namespace Go.Proofs.Ytiellonfgcmaaaa.Memo
open Go.Ce

/-- A hint alone: which temporaries to keep. -/
def keep : List Nat := [0, 0, 0, 16143, 1, 5, 3527, 967, 51, 1011, 51, 51, 7355, 5, 13, 13, 455, 5, 1807, 1, 239, 1979, 5, 61, 1807, 29, 13, 474619, 19, 27, 28851, 15, 17, 28851, 7, 524047, 5, 51, 3, 61, 19, 15, 19, 31, 115, 199, 1991, 1991, 562949953429447, 199, 1991, 19, 1807, 3855, 5, 5, 6323, 199, 471, 5, 435, 2096159, 5, 783, 5, 5, 71, 1047, 3, 1, 435, 15, 119, 7, 783, 7951, 7943, 36028797018996495, 775, 7951, 7199, 15391, 783, 199, 5, 3103, 271, 4151, 493, 3103, 0, 0, 0, 0, 0, 0, 0, 0, 0, 0, 0, 0, 0, 0, 0, 0, 0]

noncomputable def xt0 : List (FuncId × ASpec) := []
noncomputable def env0 : Env := ⟨Try.prog, xt0, keep, [], []⟩

end Go.Proofs.Ytiellonfgcmaaaa.Memo
