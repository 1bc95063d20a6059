/- The closed run, as the kernel reckons it (RC12). -/
import Derived.Test.YtoojlkfklheoeaaGreatDoorXRSt
import Derived.Test.YtoojlkfklheoeaaGreatDoorProg
import Derived.KernelRfl
namespace Go.Ax
open Go.Proofs
noncomputable def o51_0 (P : Program) : O := runS P D0 2 (u57.start P)
noncomputable def t51_0 : List (Nat × Nat) := [(9331, 9331), (9312, 9312), (9315, 9315), (9330, 9330), (9317, 9317), (9324, 9324), (9318, 9318), (9329, 9329), (9319, 9319), (9309, 9309)]
noncomputable def o51_1 (P : Program) : O := u19.use P D0 t51_0 26976 (o51_0 P) 3
noncomputable def t51_1 : List (Nat × Nat) := [(9331, 9331), (9312, 9312), (9315, 9315), (9330, 9330), (9317, 9317), (9324, 9324), (9318, 9318), (9329, 9329), (9319, 9319), (9309, 9309)]
noncomputable def o51_2 (P : Program) : O := u36.use P D0 t51_1 29739 (o51_1 P) 999
noncomputable def t51_2 : List (Nat × Nat) := [(23552, 32683), (23437, 32568), (23443, 32574), (23549, 32680), (23475, 32606), (23500, 32631), (23546, 32677), (23544, 32675)]
noncomputable def o51_3 (P : Program) : O := u44.use P D0 t51_2 32684 (o51_2 P) 2435
theorem c51 : ((headO (o51_0 Tryz.prog), dumpH (hOf (o51_0 Tryz.prog)) (mapNs (rho t51_0 u19.nx0 26976) u19.k0), u19.chk t51_0 26976), ((headO (o51_1 Tryz.prog), dumpH (hOf (o51_1 Tryz.prog)) (mapNs (rho t51_1 u36.nx0 29739) u36.k0), u36.chk t51_1 29739), ((headO (o51_2 Tryz.prog), dumpH (hOf (o51_2 Tryz.prog)) (mapNs (rho t51_2 u44.nx0 32684) u44.k0), u44.chk t51_2 32684), finS (appL u57.k0 u57.k1) (o51_3 Tryz.prog)))) = ((callH Tryz.prog u19.f u19.n (renL (rho t51_0 u19.nx0 26976) u19.args) 26976, rowsA (renRows (rho t51_0 u19.nx0 26976) u19.l0), true), ((callH Tryz.prog u36.f u36.n (renL (rho t51_1 u36.nx0 29739) u36.args) 29739, rowsA (renRows (rho t51_1 u36.nx0 29739) u36.l0), true), ((callH Tryz.prog u44.f u44.n (renL (rho t51_2 u44.nx0 32684) u44.args) 32684, rowsA (renRows (rho t51_2 u44.nx0 32684) u44.l0), true), some (.fin u57.v u57.h1 u57.nx1)))) := by kernel_rfl
theorem u57_fine : (dumpH u57.h1 u57.k0, dumpH u57.h1 u57.k1) = (rowsA u57.l0, rowsA u57.l1) := by kernel_rfl
end Go.Ax
