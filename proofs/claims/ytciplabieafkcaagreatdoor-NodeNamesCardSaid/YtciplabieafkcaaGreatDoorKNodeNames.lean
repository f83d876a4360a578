/-
  'NodeNames', reckoned by the kernel: true.
-/
import Derived.Test.YtciplabieafkcaaGreatDoorEvFas2
import Derived.Test.YtciplabieafkcaaGreatDoorEvOr
namespace Go.Ev
open Go.Proofs
set_option maxRecDepth 100000
theorem nodeNames_reckoned : saysTrue (evZ Tryz.prog (orcC false 32) 3000 (.call 7 []) startF (startW false)) = true := by kernel_rfl
end Go.Ev
