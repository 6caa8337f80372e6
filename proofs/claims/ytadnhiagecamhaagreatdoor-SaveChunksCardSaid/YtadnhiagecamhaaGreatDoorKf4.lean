/- What the inner check of the law answers (known) is proved by runs of an evaluator. Conditions: those that the theorems name. -/
import Derived.Test.YtadnhiagecamhaaGreatDoorProg
import Derived.KernelRfl
import Derived.Test.YtadnhiagecamhaaGreatDoorEvT
namespace Go.Proofs
open Go.Ev
set_option maxRecDepth 1000000
theorem Tryz.fact4_ok : factOk (evCall Tryz.prog K4 200) fact4 = true := by kernel_rfl
end Go.Proofs
