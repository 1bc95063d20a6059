/- The closed run, as the kernel reckons it (RC7). -/
import Derived.Test.YtoojlkfklheoeaaGreatDoorXRSt
import Derived.Test.YtoojlkfklheoeaaGreatDoorProg
import Derived.KernelRfl
namespace Go.Ax
open Go.Proofs
noncomputable def o18_0 (P : Program) : O := runS P D0 3409 (u23.start P)
theorem c18 : finS (appL u23.k0 u23.k1) (o18_0 Tryz.prog) = some (.fin u23.v u23.h1 u23.nx1) := by kernel_rfl
theorem u23_fine : (dumpH u23.h1 u23.k0, dumpH u23.h1 u23.k1) = (rowsA u23.l0, rowsA u23.l1) := by kernel_rfl
noncomputable def o19_0 (P : Program) : O := runS P D0 2 (u22.start P)
noncomputable def t19_0 : List (Nat × Nat) := [(9331, 9331), (9312, 9312), (9315, 9315), (9330, 9330), (9317, 9317), (9324, 9324), (9318, 9318), (9329, 9329), (9319, 9319), (9309, 9309)]
noncomputable def o19_1 (P : Program) : O := u23.use P D0 t19_0 9344 (o19_0 P) 837
theorem c19 : ((headO (o19_0 Tryz.prog), dumpH (hOf (o19_0 Tryz.prog)) (mapNs (rho t19_0 u23.nx0 9344) u23.k0), u23.chk t19_0 9344), finS (appL u22.k0 u22.k1) (o19_1 Tryz.prog)) = ((callH Tryz.prog u23.f u23.n (renL (rho t19_0 u23.nx0 9344) u23.args) 9344, rowsA (renRows (rho t19_0 u23.nx0 9344) u23.l0), true), some (.fin u22.v u22.h1 u22.nx1)) := by kernel_rfl
theorem u22_fine : (dumpH u22.h1 u22.k0, dumpH u22.h1 u22.k1) = (rowsA u22.l0, rowsA u22.l1) := by kernel_rfl
noncomputable def o20_0 (P : Program) : O := runS P D0 2 (u21.start P)
noncomputable def t20_0 : List (Nat × Nat) := [(9331, 9331), (9312, 9312), (9315, 9315), (9330, 9330), (9317, 9317), (9324, 9324), (9318, 9318), (9329, 9329), (9319, 9319), (9309, 9309)]
noncomputable def o20_1 (P : Program) : O := u22.use P D0 t20_0 9342 (o20_0 P) 2
theorem c20 : ((headO (o20_0 Tryz.prog), dumpH (hOf (o20_0 Tryz.prog)) (mapNs (rho t20_0 u22.nx0 9342) u22.k0), u22.chk t20_0 9342), finS (appL u21.k0 u21.k1) (o20_1 Tryz.prog)) = ((callH Tryz.prog u22.f u22.n (renL (rho t20_0 u22.nx0 9342) u22.args) 9342, rowsA (renRows (rho t20_0 u22.nx0 9342) u22.l0), true), some (.fin u21.v u21.h1 u21.nx1)) := by kernel_rfl
theorem u21_fine : (dumpH u21.h1 u21.k0, dumpH u21.h1 u21.k1) = (rowsA u21.l0, rowsA u21.l1) := by kernel_rfl
noncomputable def o21_0 (P : Program) : O := runS P D0 2 (u25.start P)
noncomputable def t21_0 : List (Nat × Nat) := [(9331, 9331), (9312, 9312), (9315, 9315), (9330, 9330), (9317, 9317), (9324, 9324), (9318, 9318), (9329, 9329), (9319, 9319), (9309, 9309)]
noncomputable def o21_1 (P : Program) : O := u22.use P D0 t21_0 9754 (o21_0 P) 3544
theorem c21 : ((headO (o21_0 Tryz.prog), dumpH (hOf (o21_0 Tryz.prog)) (mapNs (rho t21_0 u22.nx0 9754) u22.k0), u22.chk t21_0 9754), finS (appL u25.k0 u25.k1) (o21_1 Tryz.prog)) = ((callH Tryz.prog u22.f u22.n (renL (rho t21_0 u22.nx0 9754) u22.args) 9754, rowsA (renRows (rho t21_0 u22.nx0 9754) u22.l0), true), some (.fin u25.v u25.h1 u25.nx1)) := by kernel_rfl
theorem u25_fine : (dumpH u25.h1 u25.k0, dumpH u25.h1 u25.k1) = (rowsA u25.l0, rowsA u25.l1) := by kernel_rfl
end Go.Ax
