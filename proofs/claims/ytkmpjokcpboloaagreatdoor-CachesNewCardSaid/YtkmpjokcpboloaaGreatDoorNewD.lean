/-
  caches.New makes a cache for each number from 1 to 64, which begins without any validation, and refuses every other number: for every int the statement's function answers true. Conditions: the row's own: the listed variables hold what the program's text lays.
-/
import Derived.Test.YtkmpjokcpboloaaGreatDoorNewA
import Derived.Test.YtkmpjokcpboloaaGreatDoorNewB
import Derived.Test.YtkmpjokcpboloaaGreatDoorNewC
import Derived.Test.YtkmpjokcpboloaaGreatDoorWorld
import Derived.Test.YtkmpjokcpboloaaGreatDoorTie
import Derived.Test.YtkmpjokcpboloaaGreatDoorCards
import Derived.ChangeSame
import Derived.ChangeVars
import Derived.JoinedOf
import Derived.RowKit
import Derived.RowKitTokens
import Derived.LaidLaws
import Derived.LaidHandle
import Derived.Stop.Joined
import Derived.ProofKit
import Derived.LaidMore
import Derived.OpenShut
import Derived.SevenTiedAt
set_option linter.unusedVariables false
set_option linter.unusedSimpArgs false
namespace Go.Proofs.YtkmpjokcpboloaaGreatDoor
open Go.ChangeShapes Go.WideShapes Go.ChangeAt Go.RowKit

theorem cachesNew_holds : Rows.CachesNewSaid :=
  OpenClaim.holds_of_wide 4 Tryz.f4 rfl rfl rfl rfl rfl rfl rfl ⟨rfl, rfl, rfl, rfl, rfl⟩ rfl rfl rfl rfl rfl j13 Tryz.func4 j20 j15 j16
    (fun os started H enc _ => cachesNew_lifted os started H enc)

theorem cachesNew_card_holds : Rows.CachesNewCardSaid :=
  Claim7.holds_tied_plain_at .later [] [.data, .data, .data, .data, .data, .widerDeep, .pinned] true (true, "3bec23ef8a29218fba651fdc6f1fca79c52d6c989b7619e7477672fceffc284d") true
    cachesNew_holds (fun _ h => nomatch h) j18 (fun _ h => nomatch h) cachesNew_row_tie rfl ⟨rfl, rfl⟩ j14 rfl
    (fun f fn hf hfn => by
      obtain rfl : f = 4 := Option.some.inj (j13.symm.trans hf) |>.symm
      obtain rfl : fn = Tryz.f4 := (Option.some.inj (Tryz.func4.symm.trans hfn)).symm
      exact ⟨j7, fun j t ht => by
        rw [Tryz.params4] at ht
        have hm : t ∈ [3] := by simpa using Array.mem_of_getElem? ht
        exact (show Tryz.prog.wantsStandIn t = false by simpa using List.all_eq_true.1 j17 t hm)⟩)
    j12
#print axioms cachesNew_card_holds
end Go.Proofs.YtkmpjokcpboloaaGreatDoor
