/- Part of an abstract executor of the model's machine, and of its law (QC5). -/
import Derived.Test.YtlfocffihiephaaGreatDoorXQSt
import Derived.Test.YtlfocffihiephaaGreatDoorProg
import Derived.KernelRfl
namespace Go.Ax
open Go.Proofs
theorem c5 : finTrue (runS Tryz.prog D0 21972 (s4 Tryz.prog)) = true := by kernel_rfl
end Go.Ax
