/- Part of an abstract executor of the model's machine, and of its law (QC1). -/
import Derived.Test.YtlfocffihiephaaGreatDoorXQSt
import Derived.Test.YtlfocffihiephaaGreatDoorProg
import Derived.KernelRfl
namespace Go.Ax
open Go.Proofs
theorem c0 : (center Tryz.prog D0 3).e (extArgs 2) false (fun fs tm td => some (.go ⟨fs, [], []⟩ tm bnil 0 td false)) = some (s0 Tryz.prog) := by kernel_rfl
theorem c1 : nextS k1 (runS Tryz.prog D0 28504 (s0 Tryz.prog)) = some (s1 Tryz.prog) := by kernel_rfl
end Go.Ax
