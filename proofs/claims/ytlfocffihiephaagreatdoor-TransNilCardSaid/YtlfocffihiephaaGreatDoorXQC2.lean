/- Part of an abstract executor of the model's machine, and of its law (QC2). -/
import Derived.Test.YtlfocffihiephaaGreatDoorXQSt
import Derived.Test.YtlfocffihiephaaGreatDoorProg
import Derived.KernelRfl
namespace Go.Ax
open Go.Proofs
theorem c2 : nextS k2 (runS Tryz.prog D0 27496 (s1 Tryz.prog)) = some (s2 Tryz.prog) := by kernel_rfl
end Go.Ax
