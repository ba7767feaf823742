/-
  A part of a verified evaluator of the model's code, or of its use at this seat; see the text YtkibpfkengpimaaGreatDoorEvCard.
-/
import Derived.Test.YtkibpfkengpimaaGreatDoorEvTold2
import Derived.KernelRfl
set_option maxRecDepth 1000000
namespace Go.Proofs.YtkibpfkengpimaaGreatDoor
open Go.Ev
theorem run_4 : okTrue ((selfOf (C false true) 3000).call (.func (.func 3) [] []) [.str [256], .oneOf .u8 (upTo 255)] s0) = true := by kernel_rfl
end Go.Proofs.YtkibpfkengpimaaGreatDoor
