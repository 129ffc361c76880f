/-
  A world in which the listed variables lie as the program's text lays them: the witness of the rows. No conditions.
-/
import Derived.Test.YtkmpjokcpboloaaGreatDoorRows
import Derived.KernelRfl
import Derived.LaidMore
import Derived.LaidHandle
import Derived.LaidLaws
import Derived.ProofKit
import Derived.Stop.Joined
set_option linter.unusedVariables false
set_option linter.unusedSimpArgs false
namespace Go.Proofs.YtkmpjokcpboloaaGreatDoor
open Go.ChangeShapes Go.WideShapes Go.RowKit
noncomputable def laidWorld (os : Os) : World :=
  let w0 := World.doorLaid Tryz.prog 400 os
  { w0 with heap := w0.heap.modify 5 fun
      | .cells _ t frozen => .cells (Go.Pinned.utf8FirstZ.map fun (n : Nat) => Value.int .u8 (Int.ofNat n)).toArray t frozen
      | o => o }
set_option maxRecDepth 100000
theorem world_met (os : Os) (args : Array Value) : laidMetH Tryz.prog Rows.cachesPlayRow.laid ((laidWorld os).forCall (fun _ _ => 0) ⟨#[], args, []⟩).memory :=
  laidMetH_of_parts3 (fuel := 8) (laidMet_of_run' 8 (by kernel_rfl) (by kernel_rfl)) (by kernel_rfl) (by kernel_rfl)
theorem world_shaped (os : Os) (args : Array Value) : ((laidWorld os).forCall (fun _ _ => 0) ⟨#[], args, []⟩).Shaped Tryz.prog := World.shaped_of_RefB (by kernel_rfl) (by kernel_rfl)
end Go.Proofs.YtkmpjokcpboloaaGreatDoor
