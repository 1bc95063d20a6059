/- The closed run, as the kernel reckons it (RC5). -/
import Derived.Test.YtoojlkfklheoeaaGreatDoorXRSt
import Derived.Test.YtoojlkfklheoeaaGreatDoorProg
import Derived.KernelRfl
namespace Go.Ax
open Go.Proofs
noncomputable def o14_0 (P : Program) : O := runS P D0 2599 (u18.start P)
theorem c14 : finS (appL u18.k0 u18.k1) (o14_0 Tryz.prog) = some (.fin u18.v u18.h1 u18.nx1) := by kernel_rfl
theorem u18_fine : (dumpH u18.h1 u18.k0, dumpH u18.h1 u18.k1) = (rowsA u18.l0, rowsA u18.l1) := by kernel_rfl
noncomputable def o15_0 (P : Program) : O := runS P D0 2 (u17.start P)
noncomputable def t15_0 : List (Nat × Nat) := [(7928, 7928), (7916, 7916), (7921, 7921), (7926, 7926), (7911, 7911), (7876, 7876), (7889, 7889), (7899, 7899), (7907, 7907)]
noncomputable def o15_1 (P : Program) : O := u18.use P D0 t15_0 7938 (o15_0 P) 546
theorem c15 : ((headO (o15_0 Tryz.prog), dumpH (hOf (o15_0 Tryz.prog)) (mapNs (rho t15_0 u18.nx0 7938) u18.k0), u18.chk t15_0 7938), finS (appL u17.k0 u17.k1) (o15_1 Tryz.prog)) = ((callH Tryz.prog u18.f u18.n (renL (rho t15_0 u18.nx0 7938) u18.args) 7938, rowsA (renRows (rho t15_0 u18.nx0 7938) u18.l0), true), some (.fin u17.v u17.h1 u17.nx1)) := by kernel_rfl
theorem u17_fine : (dumpH u17.h1 u17.k0, dumpH u17.h1 u17.k1) = (rowsA u17.l0, rowsA u17.l1) := by kernel_rfl
noncomputable def o16_0 (P : Program) : O := runS P D0 30 (u16.start P)
noncomputable def t16_0 : List (Nat × Nat) := [(7928, 7928), (7916, 7916), (7921, 7921), (7926, 7926), (7911, 7911), (7876, 7876), (7889, 7889), (7899, 7899), (7907, 7907)]
noncomputable def o16_1 (P : Program) : O := u17.use P D0 t16_0 7936 (o16_0 P) 595
theorem c16 : ((headO (o16_0 Tryz.prog), dumpH (hOf (o16_0 Tryz.prog)) (mapNs (rho t16_0 u17.nx0 7936) u17.k0), u17.chk t16_0 7936), finS (appL u16.k0 u16.k1) (o16_1 Tryz.prog)) = ((callH Tryz.prog u17.f u17.n (renL (rho t16_0 u17.nx0 7936) u17.args) 7936, rowsA (renRows (rho t16_0 u17.nx0 7936) u17.l0), true), some (.fin u16.v u16.h1 u16.nx1)) := by kernel_rfl
theorem u16_fine : (dumpH u16.h1 u16.k0, dumpH u16.h1 u16.k1) = (rowsA u16.l0, rowsA u16.l1) := by kernel_rfl
end Go.Ax
