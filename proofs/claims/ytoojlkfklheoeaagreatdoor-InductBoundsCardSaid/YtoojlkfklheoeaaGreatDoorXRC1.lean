/- The closed run, as the kernel reckons it (RC1). -/
import Derived.Test.YtoojlkfklheoeaaGreatDoorXRSt
import Derived.Test.YtoojlkfklheoeaaGreatDoorProg
import Derived.KernelRfl
namespace Go.Ax
open Go.Proofs
theorem m0_start : (center Tryz.prog D0 4).e [] false (fun fs tm td => some (.go ⟨fs, [], []⟩ tm bnil 0 td false)) = some (m0.start Tryz.prog) := by kernel_rfl
noncomputable def o0_0 (P : Program) : O := runS P D0 4010 (u3.start P)
theorem c0 : finS (appL u3.k0 u3.k1) (o0_0 Tryz.prog) = some (.fin u3.v u3.h1 u3.nx1) := by kernel_rfl
theorem u3_fine : (dumpH u3.h1 u3.k0, dumpH u3.h1 u3.k1) = (rowsA u3.l0, rowsA u3.l1) := by kernel_rfl
noncomputable def o1_0 (P : Program) : O := runS P D0 2595 (u5.start P)
theorem c1 : finS (appL u5.k0 u5.k1) (o1_0 Tryz.prog) = some (.fin u5.v u5.h1 u5.nx1) := by kernel_rfl
theorem u5_fine : (dumpH u5.h1 u5.k0, dumpH u5.h1 u5.k1) = (rowsA u5.l0, rowsA u5.l1) := by kernel_rfl
noncomputable def o2_0 (P : Program) : O := runS P D0 2 (u4.start P)
noncomputable def t2_0 : List (Nat × Nat) := [(611, 611), (604, 604), (609, 609), (599, 599), (577, 577), (595, 595), (593, 593)]
noncomputable def o2_1 (P : Program) : O := u5.use P D0 t2_0 615 (o2_0 P) 2
theorem c2 : ((headO (o2_0 Tryz.prog), dumpH (hOf (o2_0 Tryz.prog)) (mapNs (rho t2_0 u5.nx0 615) u5.k0), u5.chk t2_0 615), finS (appL u4.k0 u4.k1) (o2_1 Tryz.prog)) = ((callH Tryz.prog u5.f u5.n (renL (rho t2_0 u5.nx0 615) u5.args) 615, rowsA (renRows (rho t2_0 u5.nx0 615) u5.l0), true), some (.fin u4.v u4.h1 u4.nx1)) := by kernel_rfl
theorem u4_fine : (dumpH u4.h1 u4.k0, dumpH u4.h1 u4.k1) = (rowsA u4.l0, rowsA u4.l1) := by kernel_rfl
noncomputable def o3_0 (P : Program) : O := runS P D0 30 (u8.start P)
noncomputable def t3_0 : List (Nat × Nat) := [(611, 611), (604, 604), (609, 609), (599, 599), (577, 577), (595, 595), (593, 593)]
noncomputable def o3_1 (P : Program) : O := u5.use P D0 t3_0 871 (o3_0 P) 2
theorem c3 : ((headO (o3_0 Tryz.prog), dumpH (hOf (o3_0 Tryz.prog)) (mapNs (rho t3_0 u5.nx0 871) u5.k0), u5.chk t3_0 871), finS (appL u8.k0 u8.k1) (o3_1 Tryz.prog)) = ((callH Tryz.prog u5.f u5.n (renL (rho t3_0 u5.nx0 871) u5.args) 871, rowsA (renRows (rho t3_0 u5.nx0 871) u5.l0), true), some (.fin u8.v u8.h1 u8.nx1)) := by kernel_rfl
theorem u8_fine : (dumpH u8.h1 u8.k0, dumpH u8.h1 u8.k1) = (rowsA u8.l0, rowsA u8.l1) := by kernel_rfl
noncomputable def o4_0 (P : Program) : O := runS P D0 2 (u7.start P)
noncomputable def t4_0 : List (Nat × Nat) := [(611, 611), (604, 604), (609, 609), (599, 599), (577, 577), (595, 595), (593, 593)]
noncomputable def o4_1 (P : Program) : O := u8.use P D0 t4_0 867 (o4_0 P) 295
theorem c4 : ((headO (o4_0 Tryz.prog), dumpH (hOf (o4_0 Tryz.prog)) (mapNs (rho t4_0 u8.nx0 867) u8.k0), u8.chk t4_0 867), finS (appL u7.k0 u7.k1) (o4_1 Tryz.prog)) = ((callH Tryz.prog u8.f u8.n (renL (rho t4_0 u8.nx0 867) u8.args) 867, rowsA (renRows (rho t4_0 u8.nx0 867) u8.l0), true), some (.fin u7.v u7.h1 u7.nx1)) := by kernel_rfl
theorem u7_fine : (dumpH u7.h1 u7.k0, dumpH u7.h1 u7.k1) = (rowsA u7.l0, rowsA u7.l1) := by kernel_rfl
noncomputable def o5_0 (P : Program) : O := runS P D0 2 (u6.start P)
noncomputable def t5_0 : List (Nat × Nat) := [(611, 611), (604, 604), (609, 609), (599, 599), (577, 577), (595, 595), (593, 593)]
noncomputable def o5_1 (P : Program) : O := u7.use P D0 t5_0 865 (o5_0 P) 2
theorem c5 : ((headO (o5_0 Tryz.prog), dumpH (hOf (o5_0 Tryz.prog)) (mapNs (rho t5_0 u7.nx0 865) u7.k0), u7.chk t5_0 865), finS (appL u6.k0 u6.k1) (o5_1 Tryz.prog)) = ((callH Tryz.prog u7.f u7.n (renL (rho t5_0 u7.nx0 865) u7.args) 865, rowsA (renRows (rho t5_0 u7.nx0 865) u7.l0), true), some (.fin u6.v u6.h1 u6.nx1)) := by kernel_rfl
theorem u6_fine : (dumpH u6.h1 u6.k0, dumpH u6.h1 u6.k1) = (rowsA u6.l0, rowsA u6.l1) := by kernel_rfl
end Go.Ax
