/- The closed run, as the kernel reckons it (RC16). -/
import Derived.Test.YtoojlkfklheoeaaGreatDoorXRSt
import Derived.Test.YtoojlkfklheoeaaGreatDoorProg
import Derived.KernelRfl
namespace Go.Ax
open Go.Proofs
noncomputable def o64_0 (P : Program) : O := runS P D0 49 (sm0_9 P)
noncomputable def t64_0 : List (Nat × Nat) := []
noncomputable def o64_1 (P : Program) : O := u58.use P D0 t64_0 45787 (o64_0 P) 2
noncomputable def t64_1 : List (Nat × Nat) := [(42881, 45800), (42874, 45793), (42876, 45795), (42880, 45799), (42871, 45790), (42879, 45798)]
noncomputable def o64_2 (P : Program) : O := u59.use P D0 t64_1 45805 (o64_1 P) 5
noncomputable def t64_2 : List (Nat × Nat) := [(42881, 45800), (42874, 45793), (42876, 45795), (42880, 45799), (42871, 45790), (42879, 45798)]
noncomputable def o64_3 (P : Program) : O := u64.use P D0 t64_2 46820 (o64_2 P) 527
theorem c64 : ((headO (o64_0 Tryz.prog), dumpH (hOf (o64_0 Tryz.prog)) (mapNs (rho t64_0 u58.nx0 45787) u58.k0), u58.chk t64_0 45787), ((headO (o64_1 Tryz.prog), dumpH (hOf (o64_1 Tryz.prog)) (mapNs (rho t64_1 u59.nx0 45805) u59.k0), u59.chk t64_1 45805), ((headO (o64_2 Tryz.prog), dumpH (hOf (o64_2 Tryz.prog)) (mapNs (rho t64_2 u64.nx0 46820) u64.k0), u64.chk t64_2 46820), joinS Tryz.prog D0 km0_10 [11, 12] 11 11 (o64_3 Tryz.prog)))) = ((callH Tryz.prog u58.f u58.n (renL (rho t64_0 u58.nx0 45787) u58.args) 45787, rowsA (renRows (rho t64_0 u58.nx0 45787) u58.l0), true), ((callH Tryz.prog u59.f u59.n (renL (rho t64_1 u59.nx0 45805) u59.args) 45805, rowsA (renRows (rho t64_1 u59.nx0 45805) u59.l0), true), ((callH Tryz.prog u64.f u64.n (renL (rho t64_2 u64.nx0 46820) u64.args) 46820, rowsA (renRows (rho t64_2 u64.nx0 46820) u64.l0), true), ((some 2, some (sm0_10 Tryz.prog), some (sm0_10 Tryz.prog)) : Option Nat × O × O)))) := by kernel_rfl
noncomputable def o65_0 (P : Program) : O := runS P D0 554 (sm0_10 P)
theorem c65 : joinS Tryz.prog D0 km0_11 [11, 12] 11 11 (o65_0 Tryz.prog) = ((some 2, some (sm0_11 Tryz.prog), some (sm0_11 Tryz.prog)) : Option Nat × O × O) := by kernel_rfl
noncomputable def o66_0 (P : Program) : O := runS P D0 43 (sm0_11 P)
noncomputable def t66_0 : List (Nat × Nat) := [(42881, 45800), (42874, 45793), (42876, 45795), (42880, 45799), (42871, 45790), (42879, 45798)]
noncomputable def o66_1 (P : Program) : O := u64.use P D0 t66_0 47763 (o66_0 P) 523
theorem c66 : ((headO (o66_0 Tryz.prog), dumpH (hOf (o66_0 Tryz.prog)) (mapNs (rho t66_0 u64.nx0 47763) u64.k0), u64.chk t66_0 47763), joinS Tryz.prog D0 km0_12 [11, 12] 11 11 (o66_1 Tryz.prog)) = ((callH Tryz.prog u64.f u64.n (renL (rho t66_0 u64.nx0 47763) u64.args) 47763, rowsA (renRows (rho t66_0 u64.nx0 47763) u64.l0), true), ((some 2, some (sm0_12 Tryz.prog), some (sm0_12 Tryz.prog)) : Option Nat × O × O)) := by kernel_rfl
noncomputable def o67_0 (P : Program) : O := runS P D0 567 (sm0_12 P)
theorem c67 : joinS Tryz.prog D0 km0_13 [11, 12] 11 11 (o67_0 Tryz.prog) = ((some 2, some (sm0_13 Tryz.prog), some (sm0_13 Tryz.prog)) : Option Nat × O × O) := by kernel_rfl
noncomputable def o68_0 (P : Program) : O := runS P D0 51 (sm0_13 P)
theorem c68 : finTrue (o68_0 Tryz.prog) = true := by kernel_rfl
end Go.Ax
