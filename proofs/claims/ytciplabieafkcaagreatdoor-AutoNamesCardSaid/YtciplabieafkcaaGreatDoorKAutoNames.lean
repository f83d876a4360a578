/-
  'AutoNames', reckoned by the kernel: true.
-/
import Derived.Test.YtciplabieafkcaaGreatDoorEvFas2
import Derived.Test.YtciplabieafkcaaGreatDoorEvOr
namespace Go.Ev
open Go.Proofs
set_option maxRecDepth 100000
theorem autoNames_reckoned : saysTrue (evZ Tryz.prog (orcC true 15) 3000 (.call 4 []) startF (startW true)) = true := by kernel_rfl
end Go.Ev
