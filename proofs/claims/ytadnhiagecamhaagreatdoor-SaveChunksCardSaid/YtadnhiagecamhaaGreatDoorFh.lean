/- A closed fact of the row of SaveChunks is proved by the kernel. Conditions: those that the theorems name. -/
import Derived.Test.YtadnhiagecamhaaGreatDoorFa
import Derived.Test.YtadnhiagecamhaaGreatDoorFb
import Derived.Test.YtadnhiagecamhaaGreatDoorFc
import Derived.Test.YtadnhiagecamhaaGreatDoorFd
import Derived.Test.YtadnhiagecamhaaGreatDoorFe
import Derived.Test.YtadnhiagecamhaaGreatDoorFf
import Derived.Test.YtadnhiagecamhaaGreatDoorFg
namespace Go.Proofs.YtadnhiagecamhaaGreatDoor.saveChunks
theorem closed : joinedFacts Tryz.prog 3 Tryz.f3 Rows.saveChunksSpec Rows.saveChunksRow = true := by
  unfold joinedFacts
  rw [a2, a3, a5, a6, a7, a8, a9, a10, a11, a12, a13]
  kernel_rfl
end Go.Proofs.YtadnhiagecamhaaGreatDoor.saveChunks
