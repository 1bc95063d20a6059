/- Part of an abstract executor of the model's machine, and of its law (QC3). -/
import Derived.Test.YtlfocffihiephaaGreatDoorXQSt
import Derived.Test.YtlfocffihiephaaGreatDoorProg
import Derived.KernelRfl
namespace Go.Ax
open Go.Proofs
theorem c3 : nextS k3 (runS Tryz.prog D0 28000 (s2 Tryz.prog)) = some (s3 Tryz.prog) := by kernel_rfl
end Go.Ax
