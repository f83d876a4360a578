/-
  'ExecAlive', reckoned by the kernel: true.
-/
import Derived.Test.YtciplabieafkcaaGreatDoorEvFas2
import Derived.Test.YtciplabieafkcaaGreatDoorEvOr
namespace Go.Ev
open Go.Proofs
set_option maxRecDepth 100000
theorem execAlive_reckoned : saysTrue (evZ Tryz.prog (orcT true) 3000 (.call 27 []) startF (startW true)) = true := by kernel_rfl
end Go.Ev
