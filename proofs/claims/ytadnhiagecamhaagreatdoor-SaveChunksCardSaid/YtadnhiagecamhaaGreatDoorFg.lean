/- A closed fact of the row of SaveChunks is proved by the kernel. Conditions: those that the theorems name. -/
import Derived.Test.YtadnhiagecamhaaGreatDoorRows
import Derived.JoinedOf
namespace Go.Proofs.YtadnhiagecamhaaGreatDoor.saveChunks
set_option maxRecDepth 100000
theorem a10 : Tryz.prog.stopsHeard = true := by kernel_rfl
theorem a11 : Tryz.prog.mayEnter = true := by kernel_rfl
theorem a12 : (Rows.saveChunksRow.lifted == Tryz.prog.liftsFinal) = true := by kernel_rfl
theorem a13 : (Tryz.prog.make == some Rows.saveChunksRow.make) = true := by kernel_rfl
end Go.Proofs.YtadnhiagecamhaaGreatDoor.saveChunks
