/- The closed run, as the kernel reckons it (RC14). -/
import Derived.Test.YtoojlkfklheoeaaGreatDoorXRSt
import Derived.Test.YtoojlkfklheoeaaGreatDoorProg
import Derived.KernelRfl
namespace Go.Ax
open Go.Proofs
noncomputable def o54_0 (P : Program) : O := runS P D0 3184 (u63.start P)
theorem c54 : finS (appL u63.k0 u63.k1) (o54_0 Tryz.prog) = some (.fin u63.v u63.h1 u63.nx1) := by kernel_rfl
theorem u63_fine : (dumpH u63.h1 u63.k0, dumpH u63.h1 u63.k1) = (rowsA u63.l0, rowsA u63.l1) := by kernel_rfl
noncomputable def o56_0 (P : Program) : O := runS P D0 1789 (u60.start P)
noncomputable def t56_0 : List (Nat × Nat) := [(42881, 42881), (42874, 42874), (42876, 42876), (42880, 42880), (42871, 42871), (42879, 42879)]
noncomputable def o56_1 (P : Program) : O := u63.use P D0 t56_0 43040 (o56_0 P) 6145
theorem c56 : ((headO (o56_0 Tryz.prog), dumpH (hOf (o56_0 Tryz.prog)) (mapNs (rho t56_0 u63.nx0 43040) u63.k0), u63.chk t56_0 43040), nextS ku60_1 (o56_1 Tryz.prog)) = ((callH Tryz.prog u63.f u63.n (renL (rho t56_0 u63.nx0 43040) u63.args) 43040, rowsA (renRows (rho t56_0 u63.nx0 43040) u63.l0), true), some (su60_1 Tryz.prog)) := by kernel_rfl
end Go.Ax
