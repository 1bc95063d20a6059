/- The closed run, as the kernel reckons it (RC2). -/
import Derived.Test.YtoojlkfklheoeaaGreatDoorXRSt
import Derived.Test.YtoojlkfklheoeaaGreatDoorProg
import Derived.KernelRfl
namespace Go.Ax
open Go.Proofs
noncomputable def o6_0 (P : Program) : O := runS P D0 2218 (u0.start P)
noncomputable def t6_0 : List (Nat × Nat) := [(17, 17), (10, 10), (12, 12), (16, 16), (7, 7), (15, 15), (6, 6)]
noncomputable def o6_1 (P : Program) : O := u3.use P D0 t6_0 227 (o6_0 P) 14
noncomputable def t6_1 : List (Nat × Nat) := [(24, 24), (17, 17), (611, 611), (604, 604), (609, 609), (599, 599), (577, 577), (595, 595), (593, 593), (10, 10), (12, 12), (16, 16), (7, 7), (15, 15), (6, 6)]
noncomputable def o6_2 (P : Program) : O := u4.use P D0 t6_1 614 (o6_1 P) 8
noncomputable def t6_2 : List (Nat × Nat) := [(24, 24), (17, 17), (611, 611), (604, 604), (609, 609), (599, 599), (577, 577), (595, 595), (593, 593), (10, 10), (12, 12), (16, 16), (7, 7), (15, 15), (6, 6)]
noncomputable def o6_3 (P : Program) : O := u6.use P D0 t6_2 864 (o6_2 P) 2297
theorem c6 : ((headO (o6_0 Tryz.prog), dumpH (hOf (o6_0 Tryz.prog)) (mapNs (rho t6_0 u3.nx0 227) u3.k0), u3.chk t6_0 227), ((headO (o6_1 Tryz.prog), dumpH (hOf (o6_1 Tryz.prog)) (mapNs (rho t6_1 u4.nx0 614) u4.k0), u4.chk t6_1 614), ((headO (o6_2 Tryz.prog), dumpH (hOf (o6_2 Tryz.prog)) (mapNs (rho t6_2 u6.nx0 864) u6.k0), u6.chk t6_2 864), finS (appL u0.k0 u0.k1) (o6_3 Tryz.prog)))) = ((callH Tryz.prog u3.f u3.n (renL (rho t6_0 u3.nx0 227) u3.args) 227, rowsA (renRows (rho t6_0 u3.nx0 227) u3.l0), true), ((callH Tryz.prog u4.f u4.n (renL (rho t6_1 u4.nx0 614) u4.args) 614, rowsA (renRows (rho t6_1 u4.nx0 614) u4.l0), true), ((callH Tryz.prog u6.f u6.n (renL (rho t6_2 u6.nx0 864) u6.args) 864, rowsA (renRows (rho t6_2 u6.nx0 864) u6.l0), true), some (.fin u0.v u0.h1 u0.nx1)))) := by kernel_rfl
theorem u0_fine : (dumpH u0.h1 u0.k0, dumpH u0.h1 u0.k1) = (rowsA u0.l0, rowsA u0.l1) := by kernel_rfl
noncomputable def o7_0 (P : Program) : O := runS P D0 4010 (u11.start P)
theorem c7 : finS (appL u11.k0 u11.k1) (o7_0 Tryz.prog) = some (.fin u11.v u11.h1 u11.nx1) := by kernel_rfl
theorem u11_fine : (dumpH u11.h1 u11.k0, dumpH u11.h1 u11.k1) = (rowsA u11.l0, rowsA u11.l1) := by kernel_rfl
noncomputable def o8_0 (P : Program) : O := runS P D0 2 (u12.start P)
noncomputable def t8_0 : List (Nat × Nat) := [(611, 4715), (604, 4708), (609, 4713), (599, 4703), (577, 4681), (595, 4699), (593, 4697)]
noncomputable def o8_1 (P : Program) : O := u5.use P D0 t8_0 4719 (o8_0 P) 2
theorem c8 : ((headO (o8_0 Tryz.prog), dumpH (hOf (o8_0 Tryz.prog)) (mapNs (rho t8_0 u5.nx0 4719) u5.k0), u5.chk t8_0 4719), finS (appL u12.k0 u12.k1) (o8_1 Tryz.prog)) = ((callH Tryz.prog u5.f u5.n (renL (rho t8_0 u5.nx0 4719) u5.args) 4719, rowsA (renRows (rho t8_0 u5.nx0 4719) u5.l0), true), some (.fin u12.v u12.h1 u12.nx1)) := by kernel_rfl
theorem u12_fine : (dumpH u12.h1 u12.k0, dumpH u12.h1 u12.k1) = (rowsA u12.l0, rowsA u12.l1) := by kernel_rfl
noncomputable def o9_0 (P : Program) : O := runS P D0 2 (u13.start P)
noncomputable def t9_0 : List (Nat × Nat) := [(611, 4715), (604, 4708), (609, 4713), (599, 4703), (577, 4681), (595, 4699), (593, 4697)]
noncomputable def o9_1 (P : Program) : O := u7.use P D0 t9_0 4969 (o9_0 P) 2
theorem c9 : ((headO (o9_0 Tryz.prog), dumpH (hOf (o9_0 Tryz.prog)) (mapNs (rho t9_0 u7.nx0 4969) u7.k0), u7.chk t9_0 4969), finS (appL u13.k0 u13.k1) (o9_1 Tryz.prog)) = ((callH Tryz.prog u7.f u7.n (renL (rho t9_0 u7.nx0 4969) u7.args) 4969, rowsA (renRows (rho t9_0 u7.nx0 4969) u7.l0), true), some (.fin u13.v u13.h1 u13.nx1)) := by kernel_rfl
theorem u13_fine : (dumpH u13.h1 u13.k0, dumpH u13.h1 u13.k1) = (rowsA u13.l0, rowsA u13.l1) := by kernel_rfl
end Go.Ax
