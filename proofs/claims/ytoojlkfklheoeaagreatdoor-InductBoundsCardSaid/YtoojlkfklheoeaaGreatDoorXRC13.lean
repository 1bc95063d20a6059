/- The closed run, as the kernel reckons it (RC13). -/
import Derived.Test.YtoojlkfklheoeaaGreatDoorXRSt
import Derived.Test.YtoojlkfklheoeaaGreatDoorProg
import Derived.KernelRfl
namespace Go.Ax
open Go.Proofs
noncomputable def o52_0 (P : Program) : O := runS P D0 740 (sm0_4 P)
noncomputable def t52_0 : List (Nat × Nat) := [(23552, 23552), (23437, 23437), (23443, 23443), (23549, 23549), (23475, 23475), (23500, 23500), (23546, 23546), (23544, 23544)]
noncomputable def o52_1 (P : Program) : O := u45.use P D0 t52_0 23822 (o52_0 P) 2107
noncomputable def t52_1 : List (Nat × Nat) := [(9331, 9331), (9312, 9312), (9315, 9315), (9330, 9330), (9317, 9317), (9324, 9324), (9318, 9318), (9329, 9329), (9319, 9319), (9309, 9309)]
noncomputable def o52_2 (P : Program) : O := u57.use P D0 t52_1 26974 (o52_1 P) 24
noncomputable def t52_2 : List (Nat × Nat) := [(23552, 32683), (23437, 32568), (23443, 32574), (23549, 32680), (23475, 32606), (23500, 32631), (23546, 32677), (23544, 32675)]
noncomputable def o52_3 (P : Program) : O := u45.use P D0 t52_2 32956 (o52_2 P) 1828
noncomputable def t52_3 : List (Nat × Nat) := [(9331, 9331), (9312, 9312), (9315, 9315), (9330, 9330), (9317, 9317), (9324, 9324), (9318, 9318), (9329, 9329), (9319, 9319), (9309, 9309)]
noncomputable def o52_4 (P : Program) : O := u57.use P D0 t52_3 36453 (o52_3 P) 4287
theorem c52 : ((headO (o52_0 Tryz.prog), dumpH (hOf (o52_0 Tryz.prog)) (mapNs (rho t52_0 u45.nx0 23822) u45.k0), u45.chk t52_0 23822), ((headO (o52_1 Tryz.prog), dumpH (hOf (o52_1 Tryz.prog)) (mapNs (rho t52_1 u57.nx0 26974) u57.k0), u57.chk t52_1 26974), ((headO (o52_2 Tryz.prog), dumpH (hOf (o52_2 Tryz.prog)) (mapNs (rho t52_2 u45.nx0 32956) u45.k0), u45.chk t52_2 32956), ((headO (o52_3 Tryz.prog), dumpH (hOf (o52_3 Tryz.prog)) (mapNs (rho t52_3 u57.nx0 36453) u57.k0), u57.chk t52_3 36453), nextS km0_5 (o52_4 Tryz.prog))))) = ((callH Tryz.prog u45.f u45.n (renL (rho t52_0 u45.nx0 23822) u45.args) 23822, rowsA (renRows (rho t52_0 u45.nx0 23822) u45.l0), true), ((callH Tryz.prog u57.f u57.n (renL (rho t52_1 u57.nx0 26974) u57.args) 26974, rowsA (renRows (rho t52_1 u57.nx0 26974) u57.l0), true), ((callH Tryz.prog u45.f u45.n (renL (rho t52_2 u45.nx0 32956) u45.args) 32956, rowsA (renRows (rho t52_2 u45.nx0 32956) u45.l0), true), ((callH Tryz.prog u57.f u57.n (renL (rho t52_3 u57.nx0 36453) u57.args) 36453, rowsA (renRows (rho t52_3 u57.nx0 36453) u57.l0), true), some (sm0_5 Tryz.prog))))) := by kernel_rfl
noncomputable def o53_0 (P : Program) : O := runS P D0 25 (u58.start P)
theorem c53 : finS (appL u58.k0 u58.k1) (o53_0 Tryz.prog) = some (.fin u58.v u58.h1 u58.nx1) := by kernel_rfl
theorem u58_fine : (dumpH u58.h1 u58.k0, dumpH u58.h1 u58.k1) = (rowsA u58.l0, rowsA u58.l1) := by kernel_rfl
end Go.Ax
