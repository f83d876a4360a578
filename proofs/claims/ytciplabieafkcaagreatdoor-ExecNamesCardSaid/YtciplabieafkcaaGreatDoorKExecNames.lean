/-
  'ExecNames', reckoned by the kernel: true.
-/
import Derived.Test.YtciplabieafkcaaGreatDoorEvFas2
import Derived.Test.YtciplabieafkcaaGreatDoorEvOr
namespace Go.Ev
open Go.Proofs
set_option maxRecDepth 100000
theorem execNames_reckoned : saysTrue (evZ Tryz.prog (orcC true 27) 3000 (.call 6 []) startF (startW true)) = true := by kernel_rfl
end Go.Ev
