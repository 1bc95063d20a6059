/- The closed run, as the kernel reckons it (RC15). -/
import Derived.Test.YtoojlkfklheoeaaGreatDoorXRSt
import Derived.Test.YtoojlkfklheoeaaGreatDoorProg
import Derived.KernelRfl
namespace Go.Ax
open Go.Proofs
noncomputable def o57_0 (P : Program) : O := runS P D0 298 (su60_1 P)
theorem c57 : finS (appL u60.k0 u60.k1) (o57_0 Tryz.prog) = some (.fin u60.v u60.h1 u60.nx1) := by kernel_rfl
theorem u60_fine : (dumpH u60.h1 u60.k0, dumpH u60.h1 u60.k1) = (rowsA u60.l0, rowsA u60.l1) := by kernel_rfl
noncomputable def o58_0 (P : Program) : O := runS P D0 2 (u59.start P)
noncomputable def t58_0 : List (Nat × Nat) := [(42881, 42881), (42874, 42874), (42876, 42876), (42880, 42880), (42871, 42871), (42879, 42879)]
noncomputable def o58_1 (P : Program) : O := u60.use P D0 t58_0 42887 (o58_0 P) 34
theorem c58 : ((headO (o58_0 Tryz.prog), dumpH (hOf (o58_0 Tryz.prog)) (mapNs (rho t58_0 u60.nx0 42887) u60.k0), u60.chk t58_0 42887), finS (appL u59.k0 u59.k1) (o58_1 Tryz.prog)) = ((callH Tryz.prog u60.f u60.n (renL (rho t58_0 u60.nx0 42887) u60.args) 42887, rowsA (renRows (rho t58_0 u60.nx0 42887) u60.l0), true), some (.fin u59.v u59.h1 u59.nx1)) := by kernel_rfl
theorem u59_fine : (dumpH u59.h1 u59.k0, dumpH u59.h1 u59.k1) = (rowsA u59.l0, rowsA u59.l1) := by kernel_rfl
noncomputable def o59_0 (P : Program) : O := runS P D0 1765 (u64.start P)
noncomputable def t59_0 : List (Nat × Nat) := [(42881, 42881), (42874, 42874), (42876, 42876), (42880, 42880), (42871, 42871), (42879, 42879)]
noncomputable def o59_1 (P : Program) : O := u63.use P D0 t59_0 44048 (o59_0 P) 4341
theorem c59 : ((headO (o59_0 Tryz.prog), dumpH (hOf (o59_0 Tryz.prog)) (mapNs (rho t59_0 u63.nx0 44048) u63.k0), u63.chk t59_0 44048), finS (appL u64.k0 u64.k1) (o59_1 Tryz.prog)) = ((callH Tryz.prog u63.f u63.n (renL (rho t59_0 u63.nx0 44048) u63.args) 44048, rowsA (renRows (rho t59_0 u63.nx0 44048) u63.l0), true), some (.fin u64.v u64.h1 u64.nx1)) := by kernel_rfl
theorem u64_fine : (dumpH u64.h1 u64.k0, dumpH u64.h1 u64.k1) = (rowsA u64.l0, rowsA u64.l1) := by kernel_rfl
noncomputable def o60_0 (P : Program) : O := runS P D0 7 (sm0_5 P)
noncomputable def t60_0 : List (Nat × Nat) := []
noncomputable def o60_1 (P : Program) : O := u58.use P D0 t60_0 42868 (o60_0 P) 2
noncomputable def t60_1 : List (Nat × Nat) := [(42881, 42881), (42874, 42874), (42876, 42876), (42880, 42880), (42871, 42871), (42879, 42879)]
noncomputable def o60_2 (P : Program) : O := u59.use P D0 t60_1 42886 (o60_1 P) 5
noncomputable def t60_2 : List (Nat × Nat) := [(42881, 42881), (42874, 42874), (42876, 42876), (42880, 42880), (42871, 42871), (42879, 42879)]
noncomputable def o60_3 (P : Program) : O := u64.use P D0 t60_2 43901 (o60_2 P) 526
theorem c60 : ((headO (o60_0 Tryz.prog), dumpH (hOf (o60_0 Tryz.prog)) (mapNs (rho t60_0 u58.nx0 42868) u58.k0), u58.chk t60_0 42868), ((headO (o60_1 Tryz.prog), dumpH (hOf (o60_1 Tryz.prog)) (mapNs (rho t60_1 u59.nx0 42886) u59.k0), u59.chk t60_1 42886), ((headO (o60_2 Tryz.prog), dumpH (hOf (o60_2 Tryz.prog)) (mapNs (rho t60_2 u64.nx0 43901) u64.k0), u64.chk t60_2 43901), joinS Tryz.prog D0 km0_6 [11, 12] 11 11 (o60_3 Tryz.prog)))) = ((callH Tryz.prog u58.f u58.n (renL (rho t60_0 u58.nx0 42868) u58.args) 42868, rowsA (renRows (rho t60_0 u58.nx0 42868) u58.l0), true), ((callH Tryz.prog u59.f u59.n (renL (rho t60_1 u59.nx0 42886) u59.args) 42886, rowsA (renRows (rho t60_1 u59.nx0 42886) u59.l0), true), ((callH Tryz.prog u64.f u64.n (renL (rho t60_2 u64.nx0 43901) u64.args) 43901, rowsA (renRows (rho t60_2 u64.nx0 43901) u64.l0), true), ((some 2, some (sm0_6 Tryz.prog), some (sm0_6 Tryz.prog)) : Option Nat × O × O)))) := by kernel_rfl
noncomputable def o61_0 (P : Program) : O := runS P D0 555 (sm0_6 P)
theorem c61 : joinS Tryz.prog D0 km0_7 [11, 12] 11 11 (o61_0 Tryz.prog) = ((some 2, some (sm0_7 Tryz.prog), some (sm0_7 Tryz.prog)) : Option Nat × O × O) := by kernel_rfl
noncomputable def o62_0 (P : Program) : O := runS P D0 43 (sm0_7 P)
noncomputable def t62_0 : List (Nat × Nat) := [(42881, 42881), (42874, 42874), (42876, 42876), (42880, 42880), (42871, 42871), (42879, 42879)]
noncomputable def o62_1 (P : Program) : O := u64.use P D0 t62_0 44844 (o62_0 P) 522
theorem c62 : ((headO (o62_0 Tryz.prog), dumpH (hOf (o62_0 Tryz.prog)) (mapNs (rho t62_0 u64.nx0 44844) u64.k0), u64.chk t62_0 44844), joinS Tryz.prog D0 km0_8 [11, 12] 11 11 (o62_1 Tryz.prog)) = ((callH Tryz.prog u64.f u64.n (renL (rho t62_0 u64.nx0 44844) u64.args) 44844, rowsA (renRows (rho t62_0 u64.nx0 44844) u64.l0), true), ((some 2, some (sm0_8 Tryz.prog), some (sm0_8 Tryz.prog)) : Option Nat × O × O)) := by kernel_rfl
noncomputable def o63_0 (P : Program) : O := runS P D0 568 (sm0_8 P)
theorem c63 : joinS Tryz.prog D0 km0_9 [11, 12] 11 11 (o63_0 Tryz.prog) = ((some 2, some (sm0_9 Tryz.prog), some (sm0_9 Tryz.prog)) : Option Nat × O × O) := by kernel_rfl
end Go.Ax
