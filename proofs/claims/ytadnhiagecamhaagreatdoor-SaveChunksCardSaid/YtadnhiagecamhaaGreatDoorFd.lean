/- A closed fact of the row of SaveChunks is proved by the kernel. Conditions: those that the theorems name. -/
import Derived.Test.YtadnhiagecamhaaGreatDoorRows
import Derived.JoinedOf
namespace Go.Proofs.YtadnhiagecamhaaGreatDoor.saveChunks
set_option maxRecDepth 100000
theorem a6 : (Rows.saveChunksRow.unfollowed == Tryz.prog.unfollowed 3) = true := by kernel_rfl
end Go.Proofs.YtadnhiagecamhaaGreatDoor.saveChunks
