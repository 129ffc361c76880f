/-
  caches.New makes a cache for each number from 1 to 64, which begins without any validation, and refuses every other number: for every int the statement's function answers true. Conditions: the row's own: the listed variables hold what the program's text lays.
-/
import Derived.Test.YtkmpjokcpboloaaGreatDoorLives
import Derived.Test.YtkmpjokcpboloaaGreatDoorWorld
import Derived.Test.YtkmpjokcpboloaaGreatDoorTie
import Derived.Test.YtkmpjokcpboloaaGreatDoorCards
import Derived.ChangeSame
import Derived.ChangeVars
import Derived.JoinedOf
import Derived.RowKit
import Derived.RowKitTokens
import Derived.LaidLaws
import Derived.LaidHandle
import Derived.Stop.Joined
import Derived.ProofKit
import Derived.LaidMore
import Derived.OpenShut
import Derived.SevenTiedAt
set_option linter.unusedVariables false
set_option linter.unusedSimpArgs false
namespace Go.Proofs.YtkmpjokcpboloaaGreatDoor
open Go.ChangeShapes Go.WideShapes Go.ChangeAt Go.RowKit

theorem own : ownKnob Tryz.prog.godebug = none := by kernel_rfl

section
open Go.AE
theorem new_in : ((List.range 64).all fun m => (AE.call C1 2000 4 [.int .i64 (.ofNat (m + 1))] Go.AE.h0).allB isTrue) = true := by kernel_rfl
theorem new_neg (m : Nat) : (AE.call C1 2000 4 [.int .i64 (.negSucc m)] Go.AE.h0).allB isTrue = true := by kernel_rfl
theorem new_zero : (AE.call C1 2000 4 [.int .i64 (.ofNat 0)] Go.AE.h0).allB isTrue = true := by kernel_rfl
theorem new_more (m : Nat) : (AE.call C1 2000 4 [.int .i64 (.ofNat (m + 65))] Go.AE.h0).allB isTrue = true := by kernel_rfl
theorem new_true (n : Int) : (AE.call C1 2000 4 [.int .i64 n] Go.AE.h0).allB isTrue = true := by
  cases n with
  | negSucc m => exact new_neg m
  | ofNat m =>
    by_cases h0 : m = 0
    · subst h0; exact new_zero
    · by_cases h64 : m ≤ 64
      · have := List.all_eq_true.1 new_in (m - 1) (List.mem_range.2 (by omega))
        rw [show m - 1 + 1 = m by omega] at this
        exact this
      · obtain ⟨j, rfl⟩ : ∃ j, m = j + 65 := ⟨m - 65, by omega⟩
        exact new_more j
theorem cachesNew_calls (n : Int) (_ : (Lit.int .i64 n).wf = true) (w : World) : Calls Tryz.prog 4 #[.int .i64 n] w fun e w' => e = .returned (.bool true) ∧ Go.AE.World.after w w' :=
  saysTrueOf (C := C1) (fuel := 2000) (vs := [.int .i64 n]) (args := [.int .i64 n]) C1_ok (fun _ => rfl) (VRels.cons rfl VRels.nil) (by kernel_rfl) (by kernel_rfl) (fn := Tryz.f4) (by kernel_rfl) (by kernel_rfl) (new_true n) w
end

set_option maxRecDepth 100000 in
theorem cachesNew_lifted (os : Os) (started : os.Started) (H : Type) (enc : TypeId × Value → H) :
    ReturnsInHanded {} Tryz.checked os 4 .any (fun w args => (Rows.cachesNewSpec.pre enc Tryz.prog Tryz.f4 [] false w args ∧ laidMetH Tryz.prog Rows.cachesNewRow.laid w) ∧ sizedMet enc Tryz.prog Tryz.f4 (OpenSpec.ofChange Rows.cachesNewSpec) false w args)
      (Rows.cachesNewSpec.post enc Tryz.prog Tryz.f4 false true false false) := by
  refine returnsInHanded_of_change_and (C := Tryz.checked) (X := fun w _ => laidMetH Tryz.prog Rows.cachesNewRow.laid w) (fun _ _ _ hh h => h.of_heap hh) own started (by kernel_rfl) Tryz.func4
    (ChangeSpec.witness_shaped (enc := enc) (C := Tryz.checked) (os := os) (X := fun w _ => laidMetH Tryz.prog Rows.cachesNewRow.laid w) false (laidWorld os) #[.int .i64 0] 8 rfl (world_shaped os _) (by kernel_rfl) (by kernel_rfl) (by kernel_rfl) (world_met os _)) ?_
  intro W base args ds gs before hval0 hW _ _ hL _
  have hval : ∀ (j : Nat) t v, Tryz.f4.params[j]? = some t → args[j]? = some v → Value.okWide Tryz.prog W .any base t v := hval0
  have hW' := hW
  obtain ⟨p, q, hA0, hV, rfl, hfz, hnd⟩ := hW
  have hA : DataW.TrodAll enc Tryz.prog W 0 (fun _ => true) true Tryz.f4.params.toList args.toList ds p := hA0
  rw [Tryz.params4] at hA hval
  obtain ⟨v0, d0, rfl, rfl, h0⟩ := trodAll_one hA
  obtain ⟨rfl, rfl⟩ := trodVars_none hV
  obtain ⟨a0, rfl, rfl, rfl, w0⟩ := open_int Tryz.underlying3 (hval 0 3 v0 rfl rfl) h0
  clear hA0 hval0
  simp only [List.append_nil] at hW'
  refine (cachesNew_calls a0 w0 W).mono fun e W' ⟨he, ha⟩ => ?_
  subst he
  exact ⟨_, rfl, _, _, _, [], [], [], hW', trodAll_mk1 (shut_bool Tryz.underlying4 true), trodAll_mk1 (shut_int Tryz.underlying3 w0), rfl, ha.kept _, fun h => nomatch h⟩

end Go.Proofs.YtkmpjokcpboloaaGreatDoor
