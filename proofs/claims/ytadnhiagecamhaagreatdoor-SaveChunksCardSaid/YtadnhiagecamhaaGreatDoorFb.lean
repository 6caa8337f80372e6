/- A closed fact of the row of SaveChunks is proved by the kernel. Conditions: those that the theorems name. -/
import Derived.Test.YtadnhiagecamhaaGreatDoorRows
import Derived.JoinedOf
namespace Go.Proofs.YtadnhiagecamhaaGreatDoor.saveChunks
set_option maxRecDepth 100000
theorem a3 : mapsRowed Tryz.prog = true := by kernel_rfl
theorem a9 : (Rows.saveChunksRow.plainKeys == Tryz.prog.plainKeys) = true := by kernel_rfl
end Go.Proofs.YtadnhiagecamhaaGreatDoor.saveChunks
