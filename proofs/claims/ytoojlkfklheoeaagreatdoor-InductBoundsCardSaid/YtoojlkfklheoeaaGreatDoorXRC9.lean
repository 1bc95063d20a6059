/- The closed run, as the kernel reckons it (RC9). -/
import Derived.Test.YtoojlkfklheoeaaGreatDoorXRSt
import Derived.Test.YtoojlkfklheoeaaGreatDoorProg
import Derived.KernelRfl
namespace Go.Ax
open Go.Proofs
noncomputable def o34_0 (P : Program) : O := runS P D0 2 (u38.start P)
noncomputable def t34_0 : List (Nat × Nat) := [(10542, 16079), (10530, 16067), (10540, 16077), (10525, 16062), (10462, 15999), (10475, 16012), (10485, 16022), (10498, 16035), (10508, 16045), (10521, 16058)]
noncomputable def o34_1 (P : Program) : O := u28.use P D0 t34_0 17851 (o34_0 P) 2
theorem c34 : ((headO (o34_0 Tryz.prog), dumpH (hOf (o34_0 Tryz.prog)) (mapNs (rho t34_0 u28.nx0 17851) u28.k0), u28.chk t34_0 17851), finS (appL u38.k0 u38.k1) (o34_1 Tryz.prog)) = ((callH Tryz.prog u28.f u28.n (renL (rho t34_0 u28.nx0 17851) u28.args) 17851, rowsA (renRows (rho t34_0 u28.nx0 17851) u28.l0), true), some (.fin u38.v u38.h1 u38.nx1)) := by kernel_rfl
theorem u38_fine : (dumpH u38.h1 u38.k0, dumpH u38.h1 u38.k1) = (rowsA u38.l0, rowsA u38.l1) := by kernel_rfl
noncomputable def o35_0 (P : Program) : O := runS P D0 2 (u40.start P)
noncomputable def t35_0 : List (Nat × Nat) := [(10542, 16079), (10530, 16067), (10540, 16077), (10525, 16062), (10462, 15999), (10475, 16012), (10485, 16022), (10498, 16035), (10508, 16045), (10521, 16058)]
noncomputable def o35_1 (P : Program) : O := u28.use P D0 t35_0 18263 (o35_0 P) 3544
theorem c35 : ((headO (o35_0 Tryz.prog), dumpH (hOf (o35_0 Tryz.prog)) (mapNs (rho t35_0 u28.nx0 18263) u28.k0), u28.chk t35_0 18263), finS (appL u40.k0 u40.k1) (o35_1 Tryz.prog)) = ((callH Tryz.prog u28.f u28.n (renL (rho t35_0 u28.nx0 18263) u28.args) 18263, rowsA (renRows (rho t35_0 u28.nx0 18263) u28.l0), true), some (.fin u40.v u40.h1 u40.nx1)) := by kernel_rfl
theorem u40_fine : (dumpH u40.h1 u40.k0, dumpH u40.h1 u40.k1) = (rowsA u40.l0, rowsA u40.l1) := by kernel_rfl
noncomputable def o36_0 (P : Program) : O := runS P D0 2 (u41.start P)
noncomputable def t36_0 : List (Nat × Nat) := [(10542, 19051), (10530, 19039), (10540, 19049), (10525, 19034), (10462, 18971), (10475, 18984), (10485, 18994), (10498, 19007), (10508, 19017), (10521, 19030)]
noncomputable def o36_1 (P : Program) : O := u27.use P D0 t36_0 19055 (o36_0 P) 2
theorem c36 : ((headO (o36_0 Tryz.prog), dumpH (hOf (o36_0 Tryz.prog)) (mapNs (rho t36_0 u27.nx0 19055) u27.k0), u27.chk t36_0 19055), finS (appL u41.k0 u41.k1) (o36_1 Tryz.prog)) = ((callH Tryz.prog u27.f u27.n (renL (rho t36_0 u27.nx0 19055) u27.args) 19055, rowsA (renRows (rho t36_0 u27.nx0 19055) u27.l0), true), some (.fin u41.v u41.h1 u41.nx1)) := by kernel_rfl
theorem u41_fine : (dumpH u41.h1 u41.k0, dumpH u41.h1 u41.k1) = (rowsA u41.l0, rowsA u41.l1) := by kernel_rfl
noncomputable def o37_0 (P : Program) : O := runS P D0 2 (u42.start P)
noncomputable def t37_0 : List (Nat × Nat) := [(10542, 19051), (10530, 19039), (10540, 19049), (10525, 19034), (10462, 18971), (10475, 18984), (10485, 18994), (10498, 19007), (10508, 19017), (10521, 19030)]
noncomputable def o37_1 (P : Program) : O := u31.use P D0 t37_0 19593 (o37_0 P) 2
theorem c37 : ((headO (o37_0 Tryz.prog), dumpH (hOf (o37_0 Tryz.prog)) (mapNs (rho t37_0 u31.nx0 19593) u31.k0), u31.chk t37_0 19593), finS (appL u42.k0 u42.k1) (o37_1 Tryz.prog)) = ((callH Tryz.prog u31.f u31.n (renL (rho t37_0 u31.nx0 19593) u31.args) 19593, rowsA (renRows (rho t37_0 u31.nx0 19593) u31.l0), true), some (.fin u42.v u42.h1 u42.nx1)) := by kernel_rfl
theorem u42_fine : (dumpH u42.h1 u42.k0, dumpH u42.h1 u42.k1) = (rowsA u42.l0, rowsA u42.l1) := by kernel_rfl
noncomputable def o38_0 (P : Program) : O := runS P D0 2 (u43.start P)
noncomputable def t38_0 : List (Nat × Nat) := [(10542, 19051), (10530, 19039), (10540, 19049), (10525, 19034), (10462, 18971), (10475, 18984), (10485, 18994), (10498, 19007), (10508, 19017), (10521, 19030)]
noncomputable def o38_1 (P : Program) : O := u34.use P D0 t38_0 20210 (o38_0 P) 2
theorem c38 : ((headO (o38_0 Tryz.prog), dumpH (hOf (o38_0 Tryz.prog)) (mapNs (rho t38_0 u34.nx0 20210) u34.k0), u34.chk t38_0 20210), finS (appL u43.k0 u43.k1) (o38_1 Tryz.prog)) = ((callH Tryz.prog u34.f u34.n (renL (rho t38_0 u34.nx0 20210) u34.args) 20210, rowsA (renRows (rho t38_0 u34.nx0 20210) u34.l0), true), some (.fin u43.v u43.h1 u43.nx1)) := by kernel_rfl
theorem u43_fine : (dumpH u43.h1 u43.k0, dumpH u43.h1 u43.k1) = (rowsA u43.l0, rowsA u43.l1) := by kernel_rfl
noncomputable def o39_0 (P : Program) : O := runS P D0 372 (u44.start P)
theorem c39 : finS (appL u44.k0 u44.k1) (o39_0 Tryz.prog) = some (.fin u44.v u44.h1 u44.nx1) := by kernel_rfl
theorem u44_fine : (dumpH u44.h1 u44.k0, dumpH u44.h1 u44.k1) = (rowsA u44.l0, rowsA u44.l1) := by kernel_rfl
end Go.Ax
