/-
  Closed facts of the row of caches.New, each by the kernel. No conditions.
-/
import Derived.Test.YtkmpjokcpboloaaGreatDoorRows
import Derived.Test.YtkmpjokcpboloaaGreatDoorCards
import Derived.JoinedOf
import Derived.SevenTiedAt
import Derived.KernelRfl
set_option linter.unusedVariables false
set_option linter.unusedSimpArgs false
namespace Go.Proofs.YtkmpjokcpboloaaGreatDoor
open Go
theorem j1 : laidOutB Tryz.prog = true := by kernel_rfl
theorem j2 : mapsRowed Tryz.prog = true := by kernel_rfl
theorem j3 : (Rows.cachesNewRow.inPlace == Tryz.prog.inPlace 4) = true := by kernel_rfl
theorem j4 : (Rows.cachesNewRow.unfollowed == Tryz.prog.unfollowed 4) = true := by kernel_rfl
theorem j5 : (Rows.cachesNewRow.recurses == Tryz.prog.recurses 4) = true := by kernel_rfl
theorem j6 : (Rows.cachesNewRow.named == Tryz.prog.varsNamed 4) = true := by kernel_rfl
theorem j8 : (Rows.cachesNewRow.plainKeys == Tryz.prog.plainKeys) = true := by kernel_rfl
theorem j9 : Tryz.prog.stopsHeard = true := by kernel_rfl
theorem j10 : Tryz.prog.mayEnter = true := by kernel_rfl
theorem j11 : (Rows.cachesNewRow.lifted == Tryz.prog.liftsFinal) = true := by kernel_rfl
theorem j13 : Tryz.prog.funcNamed "vidimus/vidimuslaw42.CachesNew" = some 4 := by kernel_rfl
theorem j15 : Tryz.f4.isInstance Tryz.prog Rows.cachesNewRow.origin Rows.cachesNewRow.targs := of_decide_eq_true (by kernel_rfl)
theorem j16 : Tryz.f4.isWrapper Tryz.prog Rows.cachesNewRow.wrapper Rows.cachesNewRow.mainSum := by unfold Func.isWrapper; first | (rw [if_pos (by decide +kernel)]; kernel_rfl) | (rw [if_neg (by decide +kernel)]; exact ⟨rfl, rfl⟩)
theorem j20 : joinedFacts Tryz.prog 4 Tryz.f4 Rows.cachesNewSpec Rows.cachesNewRow = true := by
  unfold joinedFacts
  simp only [j1, j2, j3, j4, j5, j6, j8, j9, j10, j11, Bool.and_true, Bool.true_and]
  kernel_rfl
end Go.Proofs.YtkmpjokcpboloaaGreatDoor
