/- The closed run, as the kernel reckons it (RC6). -/
import Derived.Test.YtoojlkfklheoeaaGreatDoorXRSt
import Derived.Test.YtoojlkfklheoeaaGreatDoorProg
import Derived.KernelRfl
namespace Go.Ax
open Go.Proofs
noncomputable def o17_0 (P : Program) : O := runS P D0 2843 (sm0_2 P)
noncomputable def t17_0 : List (Nat × Nat) := [(7134, 7134), (7093, 7093), (7096, 7096), (7099, 7099), (7132, 7132), (7108, 7108), (7116, 7116), (7121, 7121), (7130, 7130)]
noncomputable def o17_1 (P : Program) : O := u14.use P D0 t17_0 7142 (o17_0 P) 14
noncomputable def t17_1 : List (Nat × Nat) := [(7134, 7134), (7093, 7093), (7096, 7096), (7099, 7099), (7132, 7132), (7108, 7108), (7116, 7116), (7121, 7121), (7130, 7130)]
noncomputable def o17_2 (P : Program) : O := u14.use P D0 t17_1 7412 (o17_1 P) 2652
noncomputable def t17_2 : List (Nat × Nat) := [(7928, 7928), (7916, 7916), (7921, 7921), (7926, 7926), (7911, 7911), (7876, 7876), (7889, 7889), (7899, 7899), (7907, 7907)]
noncomputable def o17_3 (P : Program) : O := u16.use P D0 t17_2 7932 (o17_2 P) 44
noncomputable def t17_3 : List (Nat × Nat) := [(7928, 7928), (7916, 7916), (7921, 7921), (7926, 7926), (7911, 7911), (7876, 7876), (7889, 7889), (7899, 7899), (7907, 7907)]
noncomputable def o17_4 (P : Program) : O := u16.use P D0 t17_3 8288 (o17_3 P) 383
noncomputable def t17_4 : List (Nat × Nat) := [(7928, 7928), (7916, 7916), (7921, 7921), (7926, 7926), (7911, 7911), (7876, 7876), (7889, 7889), (7899, 7899), (7907, 7907)]
noncomputable def o17_5 (P : Program) : O := u18.use P D0 t17_4 8688 (o17_4 P) 2803
theorem c17 : ((headO (o17_0 Tryz.prog), dumpH (hOf (o17_0 Tryz.prog)) (mapNs (rho t17_0 u14.nx0 7142) u14.k0), u14.chk t17_0 7142), ((headO (o17_1 Tryz.prog), dumpH (hOf (o17_1 Tryz.prog)) (mapNs (rho t17_1 u14.nx0 7412) u14.k0), u14.chk t17_1 7412), ((headO (o17_2 Tryz.prog), dumpH (hOf (o17_2 Tryz.prog)) (mapNs (rho t17_2 u16.nx0 7932) u16.k0), u16.chk t17_2 7932), ((headO (o17_3 Tryz.prog), dumpH (hOf (o17_3 Tryz.prog)) (mapNs (rho t17_3 u16.nx0 8288) u16.k0), u16.chk t17_3 8288), ((headO (o17_4 Tryz.prog), dumpH (hOf (o17_4 Tryz.prog)) (mapNs (rho t17_4 u18.nx0 8688) u18.k0), u18.chk t17_4 8688), nextS km0_3 (o17_5 Tryz.prog)))))) = ((callH Tryz.prog u14.f u14.n (renL (rho t17_0 u14.nx0 7142) u14.args) 7142, rowsA (renRows (rho t17_0 u14.nx0 7142) u14.l0), true), ((callH Tryz.prog u14.f u14.n (renL (rho t17_1 u14.nx0 7412) u14.args) 7412, rowsA (renRows (rho t17_1 u14.nx0 7412) u14.l0), true), ((callH Tryz.prog u16.f u16.n (renL (rho t17_2 u16.nx0 7932) u16.args) 7932, rowsA (renRows (rho t17_2 u16.nx0 7932) u16.l0), true), ((callH Tryz.prog u16.f u16.n (renL (rho t17_3 u16.nx0 8288) u16.args) 8288, rowsA (renRows (rho t17_3 u16.nx0 8288) u16.l0), true), ((callH Tryz.prog u18.f u18.n (renL (rho t17_4 u18.nx0 8688) u18.args) 8688, rowsA (renRows (rho t17_4 u18.nx0 8688) u18.l0), true), some (sm0_3 Tryz.prog)))))) := by kernel_rfl
end Go.Ax
