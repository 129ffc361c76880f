/-
  The examples of the chapter hold: 'lives' says true at every world, and leaves all memory that was there as it was. No conditions.
-/
import Derived.Test.YtkmpjokcpboloaaGreatDoorAfM
import Derived.Test.YtkmpjokcpboloaaGreatDoorRows
import Derived.KernelRfl
set_option linter.unusedVariables false
set_option linter.unusedSimpArgs false
namespace Go.Proofs.YtkmpjokcpboloaaGreatDoor
open Go.AE
noncomputable def exts : List (Nat × Ext) := [(162, .indexByte)]
noncomputable def C0 : Ctx := ctx Tryz.prog exts []
theorem exts_ok (hooks : List (Nat × (List V → H → R))) : ∀ x ∈ exts, ExtOk (ctx Tryz.prog exts hooks) x.1 x.2 := by
  intro x hx
  simp only [exts, List.mem_cons, List.not_mem_nil, or_false] at hx
  rcases hx with rfl
  · exact ExtOk.indexByte Tryz.func162 (by kernel_rfl) (by kernel_rfl) (by kernel_rfl) (by kernel_rfl)
theorem mixed : Tryz.prog.follows .mixedOrders = true := by kernel_rfl
theorem C0_ok : CtxOk C0 := ctx_ok mixed (exts_ok []) (fun x hx => nomatch hx)
theorem lives_run : (AE.call C0 20000 11 [] Go.AE.h0).allB isTrue = true := by kernel_rfl
theorem lives_true (w : World) : SaysTrue Tryz.prog 11 w :=
  saysTrue (C := C0) (fuel := 20000) C0_ok (fun _ => rfl) (by kernel_rfl) (by kernel_rfl) (fn := Tryz.f11) (by kernel_rfl) (by kernel_rfl) lives_run w
/-- the context in which the examples are known -/
noncomputable def C1 : Ctx := ctx Tryz.prog exts [(11, hookTrue)]
theorem C1_ok : CtxOk C1 := by
  refine ctx_ok mixed (exts_ok _) ?_
  intro x hx G hG μ h w vs args s hv fr cs hok
  simp only [List.mem_cons, List.not_mem_nil, or_false] at hx
  subst hx
  exact hookTrue_ok Tryz.func11 (by kernel_rfl) (by kernel_rfl) lives_true G hG μ h w vs args s hv fr cs hok
end Go.Proofs.YtkmpjokcpboloaaGreatDoor
