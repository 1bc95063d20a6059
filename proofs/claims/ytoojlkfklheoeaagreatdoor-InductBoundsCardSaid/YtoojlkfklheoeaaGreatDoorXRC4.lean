/- The closed run, as the kernel reckons it (RC4). -/
import Derived.Test.YtoojlkfklheoeaaGreatDoorXRSt
import Derived.Test.YtoojlkfklheoeaaGreatDoorProg
import Derived.KernelRfl
namespace Go.Ax
open Go.Proofs
noncomputable def o11_0 (P : Program) : O := runS P D0 310 (sm0_1 P)
noncomputable def t11_0 : List (Nat × Nat) := [(3286, 3286), (3279, 3279), (3284, 3284), (3274, 3274), (3252, 3252), (3270, 3270), (3268, 3268)]
noncomputable def o11_1 (P : Program) : O := u11.use P D0 t11_0 4331 (o11_0 P) 14
noncomputable def t11_1 : List (Nat × Nat) := [(4128, 4128), (3286, 3286), (4715, 4715), (4708, 4708), (4713, 4713), (4703, 4703), (4681, 4681), (4699, 4699), (4697, 4697), (3279, 3279), (3284, 3284), (3274, 3274), (3252, 3252), (3270, 3270), (3268, 3268)]
noncomputable def o11_2 (P : Program) : O := u12.use P D0 t11_1 4718 (o11_1 P) 8
noncomputable def t11_2 : List (Nat × Nat) := [(4128, 4128), (3286, 3286), (4715, 4715), (4708, 4708), (4713, 4713), (4703, 4703), (4681, 4681), (4699, 4699), (4697, 4697), (3279, 3279), (3284, 3284), (3274, 3274), (3252, 3252), (3270, 3270), (3268, 3268)]
noncomputable def o11_3 (P : Program) : O := u13.use P D0 t11_2 4968 (o11_2 P) 4518
noncomputable def t11_3 : List (Nat × Nat) := [(3286, 3286), (3279, 3279), (3284, 3284), (3274, 3274), (3252, 3252), (3270, 3270), (3268, 3268)]
noncomputable def o11_4 (P : Program) : O := u11.use P D0 t11_3 5663 (o11_3 P) 14
noncomputable def t11_4 : List (Nat × Nat) := [(4128, 5460), (3286, 3286), (4715, 6047), (4708, 6040), (4713, 6045), (4703, 6035), (4681, 6013), (4699, 6031), (4697, 6029), (3279, 3279), (3284, 3284), (3274, 3274), (3252, 3252), (3270, 3270), (3268, 3268)]
noncomputable def o11_5 (P : Program) : O := u12.use P D0 t11_4 6050 (o11_4 P) 8
noncomputable def t11_5 : List (Nat × Nat) := [(4128, 5460), (3286, 3286), (4715, 6047), (4708, 6040), (4713, 6045), (4703, 6035), (4681, 6013), (4699, 6031), (4697, 6029), (3279, 3279), (3284, 3284), (3274, 3274), (3252, 3252), (3270, 3270), (3268, 3268)]
noncomputable def o11_6 (P : Program) : O := u13.use P D0 t11_5 6300 (o11_5 P) 2684
theorem c11 : ((headO (o11_0 Tryz.prog), dumpH (hOf (o11_0 Tryz.prog)) (mapNs (rho t11_0 u11.nx0 4331) u11.k0), u11.chk t11_0 4331), ((headO (o11_1 Tryz.prog), dumpH (hOf (o11_1 Tryz.prog)) (mapNs (rho t11_1 u12.nx0 4718) u12.k0), u12.chk t11_1 4718), ((headO (o11_2 Tryz.prog), dumpH (hOf (o11_2 Tryz.prog)) (mapNs (rho t11_2 u13.nx0 4968) u13.k0), u13.chk t11_2 4968), ((headO (o11_3 Tryz.prog), dumpH (hOf (o11_3 Tryz.prog)) (mapNs (rho t11_3 u11.nx0 5663) u11.k0), u11.chk t11_3 5663), ((headO (o11_4 Tryz.prog), dumpH (hOf (o11_4 Tryz.prog)) (mapNs (rho t11_4 u12.nx0 6050) u12.k0), u12.chk t11_4 6050), ((headO (o11_5 Tryz.prog), dumpH (hOf (o11_5 Tryz.prog)) (mapNs (rho t11_5 u13.nx0 6300) u13.k0), u13.chk t11_5 6300), nextS km0_2 (o11_6 Tryz.prog))))))) = ((callH Tryz.prog u11.f u11.n (renL (rho t11_0 u11.nx0 4331) u11.args) 4331, rowsA (renRows (rho t11_0 u11.nx0 4331) u11.l0), true), ((callH Tryz.prog u12.f u12.n (renL (rho t11_1 u12.nx0 4718) u12.args) 4718, rowsA (renRows (rho t11_1 u12.nx0 4718) u12.l0), true), ((callH Tryz.prog u13.f u13.n (renL (rho t11_2 u13.nx0 4968) u13.args) 4968, rowsA (renRows (rho t11_2 u13.nx0 4968) u13.l0), true), ((callH Tryz.prog u11.f u11.n (renL (rho t11_3 u11.nx0 5663) u11.args) 5663, rowsA (renRows (rho t11_3 u11.nx0 5663) u11.l0), true), ((callH Tryz.prog u12.f u12.n (renL (rho t11_4 u12.nx0 6050) u12.args) 6050, rowsA (renRows (rho t11_4 u12.nx0 6050) u12.l0), true), ((callH Tryz.prog u13.f u13.n (renL (rho t11_5 u13.nx0 6300) u13.args) 6300, rowsA (renRows (rho t11_5 u13.nx0 6300) u13.l0), true), some (sm0_2 Tryz.prog))))))) := by kernel_rfl
noncomputable def o12_0 (P : Program) : O := runS P D0 2599 (u15.start P)
theorem c12 : finS (appL u15.k0 u15.k1) (o12_0 Tryz.prog) = some (.fin u15.v u15.h1 u15.nx1) := by kernel_rfl
theorem u15_fine : (dumpH u15.h1 u15.k0, dumpH u15.h1 u15.k1) = (rowsA u15.l0, rowsA u15.l1) := by kernel_rfl
noncomputable def o13_0 (P : Program) : O := runS P D0 2 (u14.start P)
noncomputable def t13_0 : List (Nat × Nat) := [(7134, 7134), (7093, 7093), (7096, 7096), (7099, 7099), (7132, 7132), (7108, 7108), (7116, 7116), (7121, 7121), (7130, 7130)]
noncomputable def o13_1 (P : Program) : O := u15.use P D0 t13_0 7144 (o13_0 P) 546
theorem c13 : ((headO (o13_0 Tryz.prog), dumpH (hOf (o13_0 Tryz.prog)) (mapNs (rho t13_0 u15.nx0 7144) u15.k0), u15.chk t13_0 7144), finS (appL u14.k0 u14.k1) (o13_1 Tryz.prog)) = ((callH Tryz.prog u15.f u15.n (renL (rho t13_0 u15.nx0 7144) u15.args) 7144, rowsA (renRows (rho t13_0 u15.nx0 7144) u15.l0), true), some (.fin u14.v u14.h1 u14.nx1)) := by kernel_rfl
theorem u14_fine : (dumpH u14.h1 u14.k0, dumpH u14.h1 u14.k1) = (rowsA u14.l0, rowsA u14.l1) := by kernel_rfl
end Go.Ax
