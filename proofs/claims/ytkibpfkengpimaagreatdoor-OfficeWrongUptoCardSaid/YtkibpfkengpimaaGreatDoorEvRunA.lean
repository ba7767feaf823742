/-
  A part of a verified evaluator of the model's code, or of its use at this seat; see the text YtkibpfkengpimaaGreatDoorEvCard.
-/
import Derived.Test.YtkibpfkengpimaaGreatDoorEvTold2
import Derived.KernelRfl
set_option maxRecDepth 1000000
namespace Go.Proofs.YtkibpfkengpimaaGreatDoor
open Go.Ev
theorem run_awake : okTrue ((selfOf (C true false) 3000).call (.func (.func 4) [] []) [] s0) = true := by kernel_rfl
end Go.Proofs.YtkibpfkengpimaaGreatDoor
