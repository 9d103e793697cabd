/-
  Joined texts: AmRow. No condition.
-/
import Derived.Test.YtnlmonokkppagaaAmPan
import Derived.WalkKit
import Derived.ProofKit
import Derived.OpenShut
import Derived.ShutString
import Derived.ChangeOld
import Derived.Below
import Derived.JoinedCond
/-
  What carries the scheduler's laws over to their statements. No condition.
-/
namespace Go.Proofs.Ytnlmonokkppagaa.Am
open Go Go.Proofs
open Go.ChangeShapes Go.WideShapes Go.ChangeAt Go.RowKit
open Go.ChangeMaps (open_string shut_string)
set_option linter.unusedVariables false

theorem row_own : ownKnob Try.prog.godebug = none := by kernel_rfl
theorem row_laidOut : laidOutB Try.prog = true := by kernel_rfl
theorem row_orders : Try.prog.follows .mixedOrders = true := by kernel_rfl
theorem row_pol : PolOk Try.prog plc := ⟨fun f g h => (by cases h), fun c g h => (by cases h)⟩
end Go.Proofs.Ytnlmonokkppagaa.Am

