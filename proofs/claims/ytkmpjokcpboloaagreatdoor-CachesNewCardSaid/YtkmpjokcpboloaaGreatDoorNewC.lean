/-
  Closed facts of the card of caches.New, each by the kernel. No conditions.
-/
import Derived.Test.YtkmpjokcpboloaaGreatDoorCards
import Derived.JoinedOf
import Derived.SevenTiedAt
import Derived.KernelRfl
set_option linter.unusedVariables false
set_option linter.unusedSimpArgs false
namespace Go.Proofs.YtkmpjokcpboloaaGreatDoor
open Go
theorem j7 : true = Tryz.prog.looks [] := by kernel_rfl
theorem j12 : false = Rows.cachesNewRow.goesBy Tryz.prog := by kernel_rfl
theorem j14 : Tryz.prog.mainIs = some (true, "3bec23ef8a29218fba651fdc6f1fca79c52d6c989b7619e7477672fceffc284d".toList) := by kernel_rfl
theorem j17 : ([3].all fun u => !Tryz.prog.wantsStandIn u) = true := by kernel_rfl
theorem j18 : Rows.cachesNewRow.wfByText (OpenSpec.ofChange Rows.cachesNewSpec) = true := by kernel_rfl
end Go.Proofs.YtkmpjokcpboloaaGreatDoor
