/- The closed run, as the kernel reckons it (RC11). -/
import Derived.Test.YtoojlkfklheoeaaGreatDoorXRSt
import Derived.Test.YtoojlkfklheoeaaGreatDoorProg
import Derived.KernelRfl
namespace Go.Ax
open Go.Proofs
noncomputable def o42_0 (P : Program) : O := runS P D0 2 (u50.start P)
noncomputable def t42_0 : List (Nat × Nat) := [(23905, 23905), (23847, 23847), (23853, 23853), (23903, 23903), (23862, 23862), (23869, 23869), (23874, 23874), (23882, 23882), (23887, 23887), (23901, 23901)]
noncomputable def o42_1 (P : Program) : O := u51.use P D0 t42_0 23915 (o42_0 P) 837
theorem c42 : ((headO (o42_0 Tryz.prog), dumpH (hOf (o42_0 Tryz.prog)) (mapNs (rho t42_0 u51.nx0 23915) u51.k0), u51.chk t42_0 23915), finS (appL u50.k0 u50.k1) (o42_1 Tryz.prog)) = ((callH Tryz.prog u51.f u51.n (renL (rho t42_0 u51.nx0 23915) u51.args) 23915, rowsA (renRows (rho t42_0 u51.nx0 23915) u51.l0), true), some (.fin u50.v u50.h1 u50.nx1)) := by kernel_rfl
theorem u50_fine : (dumpH u50.h1 u50.k0, dumpH u50.h1 u50.k1) = (rowsA u50.l0, rowsA u50.l1) := by kernel_rfl
noncomputable def o43_0 (P : Program) : O := runS P D0 2 (u49.start P)
noncomputable def t43_0 : List (Nat × Nat) := [(23905, 23905), (23847, 23847), (23853, 23853), (23903, 23903), (23862, 23862), (23869, 23869), (23874, 23874), (23882, 23882), (23887, 23887), (23901, 23901)]
noncomputable def o43_1 (P : Program) : O := u50.use P D0 t43_0 23913 (o43_0 P) 2
theorem c43 : ((headO (o43_0 Tryz.prog), dumpH (hOf (o43_0 Tryz.prog)) (mapNs (rho t43_0 u50.nx0 23913) u50.k0), u50.chk t43_0 23913), finS (appL u49.k0 u49.k1) (o43_1 Tryz.prog)) = ((callH Tryz.prog u50.f u50.n (renL (rho t43_0 u50.nx0 23913) u50.args) 23913, rowsA (renRows (rho t43_0 u50.nx0 23913) u50.l0), true), some (.fin u49.v u49.h1 u49.nx1)) := by kernel_rfl
theorem u49_fine : (dumpH u49.h1 u49.k0, dumpH u49.h1 u49.k1) = (rowsA u49.l0, rowsA u49.l1) := by kernel_rfl
noncomputable def o44_0 (P : Program) : O := runS P D0 2 (u53.start P)
noncomputable def t44_0 : List (Nat × Nat) := [(23905, 23905), (23847, 23847), (23853, 23853), (23903, 23903), (23862, 23862), (23869, 23869), (23874, 23874), (23882, 23882), (23887, 23887), (23901, 23901)]
noncomputable def o44_1 (P : Program) : O := u50.use P D0 t44_0 24325 (o44_0 P) 3544
theorem c44 : ((headO (o44_0 Tryz.prog), dumpH (hOf (o44_0 Tryz.prog)) (mapNs (rho t44_0 u50.nx0 24325) u50.k0), u50.chk t44_0 24325), finS (appL u53.k0 u53.k1) (o44_1 Tryz.prog)) = ((callH Tryz.prog u50.f u50.n (renL (rho t44_0 u50.nx0 24325) u50.args) 24325, rowsA (renRows (rho t44_0 u50.nx0 24325) u50.l0), true), some (.fin u53.v u53.h1 u53.nx1)) := by kernel_rfl
theorem u53_fine : (dumpH u53.h1 u53.k0, dumpH u53.h1 u53.k1) = (rowsA u53.l0, rowsA u53.l1) := by kernel_rfl
noncomputable def o45_0 (P : Program) : O := runS P D0 2 (u54.start P)
noncomputable def t45_0 : List (Nat × Nat) := [(10542, 25113), (10530, 25101), (10540, 25111), (10525, 25096), (10462, 25033), (10475, 25046), (10485, 25056), (10498, 25069), (10508, 25079), (10521, 25092)]
noncomputable def o45_1 (P : Program) : O := u27.use P D0 t45_0 25117 (o45_0 P) 2
theorem c45 : ((headO (o45_0 Tryz.prog), dumpH (hOf (o45_0 Tryz.prog)) (mapNs (rho t45_0 u27.nx0 25117) u27.k0), u27.chk t45_0 25117), finS (appL u54.k0 u54.k1) (o45_1 Tryz.prog)) = ((callH Tryz.prog u27.f u27.n (renL (rho t45_0 u27.nx0 25117) u27.args) 25117, rowsA (renRows (rho t45_0 u27.nx0 25117) u27.l0), true), some (.fin u54.v u54.h1 u54.nx1)) := by kernel_rfl
theorem u54_fine : (dumpH u54.h1 u54.k0, dumpH u54.h1 u54.k1) = (rowsA u54.l0, rowsA u54.l1) := by kernel_rfl
noncomputable def o46_0 (P : Program) : O := runS P D0 2 (u55.start P)
noncomputable def t46_0 : List (Nat × Nat) := [(10542, 25113), (10530, 25101), (10540, 25111), (10525, 25096), (10462, 25033), (10475, 25046), (10485, 25056), (10498, 25069), (10508, 25079), (10521, 25092)]
noncomputable def o46_1 (P : Program) : O := u31.use P D0 t46_0 25655 (o46_0 P) 2
theorem c46 : ((headO (o46_0 Tryz.prog), dumpH (hOf (o46_0 Tryz.prog)) (mapNs (rho t46_0 u31.nx0 25655) u31.k0), u31.chk t46_0 25655), finS (appL u55.k0 u55.k1) (o46_1 Tryz.prog)) = ((callH Tryz.prog u31.f u31.n (renL (rho t46_0 u31.nx0 25655) u31.args) 25655, rowsA (renRows (rho t46_0 u31.nx0 25655) u31.l0), true), some (.fin u55.v u55.h1 u55.nx1)) := by kernel_rfl
theorem u55_fine : (dumpH u55.h1 u55.k0, dumpH u55.h1 u55.k1) = (rowsA u55.l0, rowsA u55.l1) := by kernel_rfl
noncomputable def o47_0 (P : Program) : O := runS P D0 2 (u56.start P)
noncomputable def t47_0 : List (Nat × Nat) := [(10542, 25113), (10530, 25101), (10540, 25111), (10525, 25096), (10462, 25033), (10475, 25046), (10485, 25056), (10498, 25069), (10508, 25079), (10521, 25092)]
noncomputable def o47_1 (P : Program) : O := u34.use P D0 t47_0 26272 (o47_0 P) 2
theorem c47 : ((headO (o47_0 Tryz.prog), dumpH (hOf (o47_0 Tryz.prog)) (mapNs (rho t47_0 u34.nx0 26272) u34.k0), u34.chk t47_0 26272), finS (appL u56.k0 u56.k1) (o47_1 Tryz.prog)) = ((callH Tryz.prog u34.f u34.n (renL (rho t47_0 u34.nx0 26272) u34.args) 26272, rowsA (renRows (rho t47_0 u34.nx0 26272) u34.l0), true), some (.fin u56.v u56.h1 u56.nx1)) := by kernel_rfl
theorem u56_fine : (dumpH u56.h1 u56.k0, dumpH u56.h1 u56.k1) = (rowsA u56.l0, rowsA u56.l1) := by kernel_rfl
noncomputable def o48_0 (P : Program) : O := runS P D0 15 (u47.start P)
noncomputable def t48_0 : List (Nat × Nat) := [(23909, 23909), (23905, 23905), (23847, 23847), (23853, 23853), (23903, 23903), (23862, 23862), (23869, 23869), (23874, 23874), (23882, 23882), (23887, 23887), (23901, 23901)]
noncomputable def o48_1 (P : Program) : O := u49.use P D0 t48_0 23912 (o48_0 P) 10
noncomputable def t48_1 : List (Nat × Nat) := [(23905, 23905), (23847, 23847), (23853, 23853), (23903, 23903), (23862, 23862), (23869, 23869), (23874, 23874), (23882, 23882), (23887, 23887), (23901, 23901)]
noncomputable def o48_2 (P : Program) : O := u53.use P D0 t48_1 24323 (o48_1 P) 14
noncomputable def t48_2 : List (Nat × Nat) := [(23909, 23909), (23905, 23905), (25113, 25113), (25101, 25101), (25111, 25111), (25096, 25096), (25033, 25033), (25046, 25046), (25056, 25056), (25069, 25069), (25079, 25079), (25092, 25092), (23847, 23847), (23853, 23853), (23903, 23903), (23862, 23862), (23869, 23869), (23874, 23874), (23882, 23882), (23887, 23887), (23901, 23901)]
noncomputable def o48_3 (P : Program) : O := u54.use P D0 t48_2 25116 (o48_2 P) 8
noncomputable def t48_3 : List (Nat × Nat) := [(23909, 23909), (23905, 23905), (25113, 25113), (25101, 25101), (25111, 25111), (25096, 25096), (25033, 25033), (25046, 25046), (25056, 25056), (25069, 25069), (25079, 25079), (25092, 25092), (23847, 23847), (23853, 23853), (23903, 23903), (23862, 23862), (23869, 23869), (23874, 23874), (23882, 23882), (23887, 23887), (23901, 23901)]
noncomputable def o48_4 (P : Program) : O := u55.use P D0 t48_3 25654 (o48_3 P) 8
noncomputable def t48_4 : List (Nat × Nat) := [(23909, 23909), (23905, 23905), (25113, 25113), (25101, 25101), (25111, 25111), (25096, 25096), (25033, 25033), (25046, 25046), (25056, 25056), (25069, 25069), (25079, 25079), (25092, 25092), (23847, 23847), (23853, 23853), (23903, 23903), (23862, 23862), (23869, 23869), (23874, 23874), (23882, 23882), (23887, 23887), (23901, 23901)]
noncomputable def o48_5 (P : Program) : O := u56.use P D0 t48_4 26271 (o48_4 P) 11
theorem c48 : ((headO (o48_0 Tryz.prog), dumpH (hOf (o48_0 Tryz.prog)) (mapNs (rho t48_0 u49.nx0 23912) u49.k0), u49.chk t48_0 23912), ((headO (o48_1 Tryz.prog), dumpH (hOf (o48_1 Tryz.prog)) (mapNs (rho t48_1 u53.nx0 24323) u53.k0), u53.chk t48_1 24323), ((headO (o48_2 Tryz.prog), dumpH (hOf (o48_2 Tryz.prog)) (mapNs (rho t48_2 u54.nx0 25116) u54.k0), u54.chk t48_2 25116), ((headO (o48_3 Tryz.prog), dumpH (hOf (o48_3 Tryz.prog)) (mapNs (rho t48_3 u55.nx0 25654) u55.k0), u55.chk t48_3 25654), ((headO (o48_4 Tryz.prog), dumpH (hOf (o48_4 Tryz.prog)) (mapNs (rho t48_4 u56.nx0 26271) u56.k0), u56.chk t48_4 26271), finS (appL u47.k0 u47.k1) (o48_5 Tryz.prog)))))) = ((callH Tryz.prog u49.f u49.n (renL (rho t48_0 u49.nx0 23912) u49.args) 23912, rowsA (renRows (rho t48_0 u49.nx0 23912) u49.l0), true), ((callH Tryz.prog u53.f u53.n (renL (rho t48_1 u53.nx0 24323) u53.args) 24323, rowsA (renRows (rho t48_1 u53.nx0 24323) u53.l0), true), ((callH Tryz.prog u54.f u54.n (renL (rho t48_2 u54.nx0 25116) u54.args) 25116, rowsA (renRows (rho t48_2 u54.nx0 25116) u54.l0), true), ((callH Tryz.prog u55.f u55.n (renL (rho t48_3 u55.nx0 25654) u55.args) 25654, rowsA (renRows (rho t48_3 u55.nx0 25654) u55.l0), true), ((callH Tryz.prog u56.f u56.n (renL (rho t48_4 u56.nx0 26271) u56.args) 26271, rowsA (renRows (rho t48_4 u56.nx0 26271) u56.l0), true), some (.fin u47.v u47.h1 u47.nx1)))))) := by kernel_rfl
theorem u47_fine : (dumpH u47.h1 u47.k0, dumpH u47.h1 u47.k1) = (rowsA u47.l0, rowsA u47.l1) := by kernel_rfl
noncomputable def o49_0 (P : Program) : O := runS P D0 152 (u46.start P)
noncomputable def t49_0 : List (Nat × Nat) := [(23552, 23552), (23437, 23437), (23443, 23443), (23549, 23549), (23475, 23475), (23500, 23500), (23546, 23546), (23544, 23544)]
noncomputable def o49_1 (P : Program) : O := u44.use P D0 t49_0 23840 (o49_0 P) 1
noncomputable def t49_1 : List (Nat × Nat) := [(23905, 23905), (23847, 23847), (23853, 23853), (23903, 23903), (23862, 23862), (23869, 23869), (23874, 23874), (23882, 23882), (23887, 23887), (23901, 23901)]
noncomputable def o49_2 (P : Program) : O := u47.use P D0 t49_1 23907 (o49_1 P) 190
theorem c49 : ((headO (o49_0 Tryz.prog), dumpH (hOf (o49_0 Tryz.prog)) (mapNs (rho t49_0 u44.nx0 23840) u44.k0), u44.chk t49_0 23840), ((headO (o49_1 Tryz.prog), dumpH (hOf (o49_1 Tryz.prog)) (mapNs (rho t49_1 u47.nx0 23907) u47.k0), u47.chk t49_1 23907), finS (appL u46.k0 u46.k1) (o49_2 Tryz.prog))) = ((callH Tryz.prog u44.f u44.n (renL (rho t49_0 u44.nx0 23840) u44.args) 23840, rowsA (renRows (rho t49_0 u44.nx0 23840) u44.l0), true), ((callH Tryz.prog u47.f u47.n (renL (rho t49_1 u47.nx0 23907) u47.args) 23907, rowsA (renRows (rho t49_1 u47.nx0 23907) u47.l0), true), some (.fin u46.v u46.h1 u46.nx1))) := by kernel_rfl
theorem u46_fine : (dumpH u46.h1 u46.k0, dumpH u46.h1 u46.k1) = (rowsA u46.l0, rowsA u46.l1) := by kernel_rfl
noncomputable def o50_0 (P : Program) : O := runS P D0 2 (u45.start P)
noncomputable def t50_0 : List (Nat × Nat) := [(23552, 23552), (23437, 23437), (23443, 23443), (23549, 23549), (23475, 23475), (23500, 23500), (23546, 23546), (23544, 23544)]
noncomputable def o50_1 (P : Program) : O := u46.use P D0 t50_0 23824 (o50_0 P) 1085
theorem c50 : ((headO (o50_0 Tryz.prog), dumpH (hOf (o50_0 Tryz.prog)) (mapNs (rho t50_0 u46.nx0 23824) u46.k0), u46.chk t50_0 23824), finS (appL u45.k0 u45.k1) (o50_1 Tryz.prog)) = ((callH Tryz.prog u46.f u46.n (renL (rho t50_0 u46.nx0 23824) u46.args) 23824, rowsA (renRows (rho t50_0 u46.nx0 23824) u46.l0), true), some (.fin u45.v u45.h1 u45.nx1)) := by kernel_rfl
theorem u45_fine : (dumpH u45.h1 u45.k0, dumpH u45.h1 u45.k1) = (rowsA u45.l0, rowsA u45.l1) := by kernel_rfl
end Go.Ax
