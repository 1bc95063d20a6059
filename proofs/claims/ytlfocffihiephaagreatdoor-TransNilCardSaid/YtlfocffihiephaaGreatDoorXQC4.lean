/- Part of an abstract executor of the model's machine, and of its law (QC4). -/
import Derived.Test.YtlfocffihiephaaGreatDoorXQSt
import Derived.Test.YtlfocffihiephaaGreatDoorProg
import Derived.KernelRfl
namespace Go.Ax
open Go.Proofs
theorem c4 : nextS k4 (runS Tryz.prog D0 26243 (s3 Tryz.prog)) = some (s4 Tryz.prog) := by kernel_rfl
end Go.Ax
