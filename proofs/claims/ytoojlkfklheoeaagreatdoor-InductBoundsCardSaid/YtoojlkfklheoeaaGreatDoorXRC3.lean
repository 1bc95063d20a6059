/- The closed run, as the kernel reckons it (RC3). -/
import Derived.Test.YtoojlkfklheoeaaGreatDoorXRSt
import Derived.Test.YtoojlkfklheoeaaGreatDoorProg
import Derived.KernelRfl
namespace Go.Ax
open Go.Proofs
noncomputable def o10_0 (P : Program) : O := runS P D0 48 (m0.start P)
noncomputable def t10_0 : List (Nat × Nat) := [(17, 17), (10, 10), (12, 12), (16, 16), (7, 7), (15, 15), (6, 6)]
noncomputable def o10_1 (P : Program) : O := u0.use P D0 t10_0 22 (o10_0 P) 41
noncomputable def t10_1 : List (Nat × Nat) := [(17, 17), (10, 10), (12, 12), (16, 16), (7, 7), (15, 15), (6, 6)]
noncomputable def o10_2 (P : Program) : O := u0.use P D0 t10_1 1362 (o10_1 P) 2242
noncomputable def t10_2 : List (Nat × Nat) := [(17, 17), (10, 10), (12, 12), (16, 16), (7, 7), (15, 15), (6, 6)]
noncomputable def o10_3 (P : Program) : O := u3.use P D0 t10_2 2902 (o10_2 P) 14
noncomputable def t10_3 : List (Nat × Nat) := [(24, 2699), (17, 17), (611, 3286), (604, 3279), (609, 3284), (599, 3274), (577, 3252), (595, 3270), (593, 3268), (10, 10), (12, 12), (16, 16), (7, 7), (15, 15), (6, 6)]
noncomputable def o10_4 (P : Program) : O := u4.use P D0 t10_3 3289 (o10_3 P) 8
noncomputable def t10_4 : List (Nat × Nat) := [(24, 2699), (17, 17), (611, 3286), (604, 3279), (609, 3284), (599, 3274), (577, 3252), (595, 3270), (593, 3268), (10, 10), (12, 12), (16, 16), (7, 7), (15, 15), (6, 6)]
noncomputable def o10_5 (P : Program) : O := u6.use P D0 t10_4 3539 (o10_4 P) 5401
theorem c10 : ((headO (o10_0 Tryz.prog), dumpH (hOf (o10_0 Tryz.prog)) (mapNs (rho t10_0 u0.nx0 22) u0.k0), u0.chk t10_0 22), ((headO (o10_1 Tryz.prog), dumpH (hOf (o10_1 Tryz.prog)) (mapNs (rho t10_1 u0.nx0 1362) u0.k0), u0.chk t10_1 1362), ((headO (o10_2 Tryz.prog), dumpH (hOf (o10_2 Tryz.prog)) (mapNs (rho t10_2 u3.nx0 2902) u3.k0), u3.chk t10_2 2902), ((headO (o10_3 Tryz.prog), dumpH (hOf (o10_3 Tryz.prog)) (mapNs (rho t10_3 u4.nx0 3289) u4.k0), u4.chk t10_3 3289), ((headO (o10_4 Tryz.prog), dumpH (hOf (o10_4 Tryz.prog)) (mapNs (rho t10_4 u6.nx0 3539) u6.k0), u6.chk t10_4 3539), nextS km0_1 (o10_5 Tryz.prog)))))) = ((callH Tryz.prog u0.f u0.n (renL (rho t10_0 u0.nx0 22) u0.args) 22, rowsA (renRows (rho t10_0 u0.nx0 22) u0.l0), true), ((callH Tryz.prog u0.f u0.n (renL (rho t10_1 u0.nx0 1362) u0.args) 1362, rowsA (renRows (rho t10_1 u0.nx0 1362) u0.l0), true), ((callH Tryz.prog u3.f u3.n (renL (rho t10_2 u3.nx0 2902) u3.args) 2902, rowsA (renRows (rho t10_2 u3.nx0 2902) u3.l0), true), ((callH Tryz.prog u4.f u4.n (renL (rho t10_3 u4.nx0 3289) u4.args) 3289, rowsA (renRows (rho t10_3 u4.nx0 3289) u4.l0), true), ((callH Tryz.prog u6.f u6.n (renL (rho t10_4 u6.nx0 3539) u6.args) 3539, rowsA (renRows (rho t10_4 u6.nx0 3539) u6.l0), true), some (sm0_1 Tryz.prog)))))) := by kernel_rfl
end Go.Ax
