/- The closed run, as the kernel reckons it (RC8). -/
import Derived.Test.YtoojlkfklheoeaaGreatDoorXRSt
import Derived.Test.YtoojlkfklheoeaaGreatDoorProg
import Derived.KernelRfl
namespace Go.Ax
open Go.Proofs
noncomputable def o22_0 (P : Program) : O := runS P D0 3409 (u29.start P)
theorem c22 : finS (appL u29.k0 u29.k1) (o22_0 Tryz.prog) = some (.fin u29.v u29.h1 u29.nx1) := by kernel_rfl
theorem u29_fine : (dumpH u29.h1 u29.k0, dumpH u29.h1 u29.k1) = (rowsA u29.l0, rowsA u29.l1) := by kernel_rfl
noncomputable def o23_0 (P : Program) : O := runS P D0 2 (u28.start P)
noncomputable def t23_0 : List (Nat × Nat) := [(10542, 10542), (10530, 10530), (10540, 10540), (10525, 10525), (10462, 10462), (10475, 10475), (10485, 10485), (10498, 10498), (10508, 10508), (10521, 10521)]
noncomputable def o23_1 (P : Program) : O := u29.use P D0 t23_0 10552 (o23_0 P) 837
theorem c23 : ((headO (o23_0 Tryz.prog), dumpH (hOf (o23_0 Tryz.prog)) (mapNs (rho t23_0 u29.nx0 10552) u29.k0), u29.chk t23_0 10552), finS (appL u28.k0 u28.k1) (o23_1 Tryz.prog)) = ((callH Tryz.prog u29.f u29.n (renL (rho t23_0 u29.nx0 10552) u29.args) 10552, rowsA (renRows (rho t23_0 u29.nx0 10552) u29.l0), true), some (.fin u28.v u28.h1 u28.nx1)) := by kernel_rfl
theorem u28_fine : (dumpH u28.h1 u28.k0, dumpH u28.h1 u28.k1) = (rowsA u28.l0, rowsA u28.l1) := by kernel_rfl
noncomputable def o24_0 (P : Program) : O := runS P D0 30 (u27.start P)
noncomputable def t24_0 : List (Nat × Nat) := [(10542, 10542), (10530, 10530), (10540, 10540), (10525, 10525), (10462, 10462), (10475, 10475), (10485, 10485), (10498, 10498), (10508, 10508), (10521, 10521)]
noncomputable def o24_1 (P : Program) : O := u28.use P D0 t24_0 10550 (o24_0 P) 894
theorem c24 : ((headO (o24_0 Tryz.prog), dumpH (hOf (o24_0 Tryz.prog)) (mapNs (rho t24_0 u28.nx0 10550) u28.k0), u28.chk t24_0 10550), finS (appL u27.k0 u27.k1) (o24_1 Tryz.prog)) = ((callH Tryz.prog u28.f u28.n (renL (rho t24_0 u28.nx0 10550) u28.args) 10550, rowsA (renRows (rho t24_0 u28.nx0 10550) u28.l0), true), some (.fin u27.v u27.h1 u27.nx1)) := by kernel_rfl
theorem u27_fine : (dumpH u27.h1 u27.k0, dumpH u27.h1 u27.k1) = (rowsA u27.l0, rowsA u27.l1) := by kernel_rfl
noncomputable def o25_0 (P : Program) : O := runS P D0 2 (u26.start P)
noncomputable def t25_0 : List (Nat × Nat) := [(10542, 10542), (10530, 10530), (10540, 10540), (10525, 10525), (10462, 10462), (10475, 10475), (10485, 10485), (10498, 10498), (10508, 10508), (10521, 10521)]
noncomputable def o25_1 (P : Program) : O := u27.use P D0 t25_0 10546 (o25_0 P) 2
theorem c25 : ((headO (o25_0 Tryz.prog), dumpH (hOf (o25_0 Tryz.prog)) (mapNs (rho t25_0 u27.nx0 10546) u27.k0), u27.chk t25_0 10546), finS (appL u26.k0 u26.k1) (o25_1 Tryz.prog)) = ((callH Tryz.prog u27.f u27.n (renL (rho t25_0 u27.nx0 10546) u27.args) 10546, rowsA (renRows (rho t25_0 u27.nx0 10546) u27.l0), true), some (.fin u26.v u26.h1 u26.nx1)) := by kernel_rfl
theorem u26_fine : (dumpH u26.h1 u26.k0, dumpH u26.h1 u26.k1) = (rowsA u26.l0, rowsA u26.l1) := by kernel_rfl
noncomputable def o26_0 (P : Program) : O := runS P D0 30 (u32.start P)
noncomputable def t26_0 : List (Nat × Nat) := [(10542, 10542), (10530, 10530), (10540, 10540), (10525, 10525), (10462, 10462), (10475, 10475), (10485, 10485), (10498, 10498), (10508, 10508), (10521, 10521)]
noncomputable def o26_1 (P : Program) : O := u27.use P D0 t26_0 11090 (o26_0 P) 2
theorem c26 : ((headO (o26_0 Tryz.prog), dumpH (hOf (o26_0 Tryz.prog)) (mapNs (rho t26_0 u27.nx0 11090) u27.k0), u27.chk t26_0 11090), finS (appL u32.k0 u32.k1) (o26_1 Tryz.prog)) = ((callH Tryz.prog u27.f u27.n (renL (rho t26_0 u27.nx0 11090) u27.args) 11090, rowsA (renRows (rho t26_0 u27.nx0 11090) u27.l0), true), some (.fin u32.v u32.h1 u32.nx1)) := by kernel_rfl
theorem u32_fine : (dumpH u32.h1 u32.k0, dumpH u32.h1 u32.k1) = (rowsA u32.l0, rowsA u32.l1) := by kernel_rfl
noncomputable def o27_0 (P : Program) : O := runS P D0 2 (u31.start P)
noncomputable def t27_0 : List (Nat × Nat) := [(10542, 10542), (10530, 10530), (10540, 10540), (10525, 10525), (10462, 10462), (10475, 10475), (10485, 10485), (10498, 10498), (10508, 10508), (10521, 10521)]
noncomputable def o27_1 (P : Program) : O := u32.use P D0 t27_0 11086 (o27_0 P) 587
theorem c27 : ((headO (o27_0 Tryz.prog), dumpH (hOf (o27_0 Tryz.prog)) (mapNs (rho t27_0 u32.nx0 11086) u32.k0), u32.chk t27_0 11086), finS (appL u31.k0 u31.k1) (o27_1 Tryz.prog)) = ((callH Tryz.prog u32.f u32.n (renL (rho t27_0 u32.nx0 11086) u32.args) 11086, rowsA (renRows (rho t27_0 u32.nx0 11086) u32.l0), true), some (.fin u31.v u31.h1 u31.nx1)) := by kernel_rfl
theorem u31_fine : (dumpH u31.h1 u31.k0, dumpH u31.h1 u31.k1) = (rowsA u31.l0, rowsA u31.l1) := by kernel_rfl
noncomputable def o28_0 (P : Program) : O := runS P D0 2 (u30.start P)
noncomputable def t28_0 : List (Nat × Nat) := [(10542, 10542), (10530, 10530), (10540, 10540), (10525, 10525), (10462, 10462), (10475, 10475), (10485, 10485), (10498, 10498), (10508, 10508), (10521, 10521)]
noncomputable def o28_1 (P : Program) : O := u31.use P D0 t28_0 11084 (o28_0 P) 2
theorem c28 : ((headO (o28_0 Tryz.prog), dumpH (hOf (o28_0 Tryz.prog)) (mapNs (rho t28_0 u31.nx0 11084) u31.k0), u31.chk t28_0 11084), finS (appL u30.k0 u30.k1) (o28_1 Tryz.prog)) = ((callH Tryz.prog u31.f u31.n (renL (rho t28_0 u31.nx0 11084) u31.args) 11084, rowsA (renRows (rho t28_0 u31.nx0 11084) u31.l0), true), some (.fin u30.v u30.h1 u30.nx1)) := by kernel_rfl
theorem u30_fine : (dumpH u30.h1 u30.k0, dumpH u30.h1 u30.k1) = (rowsA u30.l0, rowsA u30.l1) := by kernel_rfl
noncomputable def o29_0 (P : Program) : O := runS P D0 2 (u35.start P)
noncomputable def t29_0 : List (Nat × Nat) := [(10542, 10542), (10530, 10530), (10540, 10540), (10525, 10525), (10462, 10462), (10475, 10475), (10485, 10485), (10498, 10498), (10508, 10508), (10521, 10521)]
noncomputable def o29_1 (P : Program) : O := u29.use P D0 t29_0 11705 (o29_0 P) 33
theorem c29 : ((headO (o29_0 Tryz.prog), dumpH (hOf (o29_0 Tryz.prog)) (mapNs (rho t29_0 u29.nx0 11705) u29.k0), u29.chk t29_0 11705), finS (appL u35.k0 u35.k1) (o29_1 Tryz.prog)) = ((callH Tryz.prog u29.f u29.n (renL (rho t29_0 u29.nx0 11705) u29.args) 11705, rowsA (renRows (rho t29_0 u29.nx0 11705) u29.l0), true), some (.fin u35.v u35.h1 u35.nx1)) := by kernel_rfl
theorem u35_fine : (dumpH u35.h1 u35.k0, dumpH u35.h1 u35.k1) = (rowsA u35.l0, rowsA u35.l1) := by kernel_rfl
noncomputable def o30_0 (P : Program) : O := runS P D0 2 (u34.start P)
noncomputable def t30_0 : List (Nat × Nat) := [(10542, 10542), (10530, 10530), (10540, 10540), (10525, 10525), (10462, 10462), (10475, 10475), (10485, 10485), (10498, 10498), (10508, 10508), (10521, 10521)]
noncomputable def o30_1 (P : Program) : O := u35.use P D0 t30_0 11703 (o30_0 P) 1041
theorem c30 : ((headO (o30_0 Tryz.prog), dumpH (hOf (o30_0 Tryz.prog)) (mapNs (rho t30_0 u35.nx0 11703) u35.k0), u35.chk t30_0 11703), finS (appL u34.k0 u34.k1) (o30_1 Tryz.prog)) = ((callH Tryz.prog u35.f u35.n (renL (rho t30_0 u35.nx0 11703) u35.args) 11703, rowsA (renRows (rho t30_0 u35.nx0 11703) u35.l0), true), some (.fin u34.v u34.h1 u34.nx1)) := by kernel_rfl
theorem u34_fine : (dumpH u34.h1 u34.k0, dumpH u34.h1 u34.k1) = (rowsA u34.l0, rowsA u34.l1) := by kernel_rfl
noncomputable def o31_0 (P : Program) : O := runS P D0 2 (u33.start P)
noncomputable def t31_0 : List (Nat × Nat) := [(10542, 10542), (10530, 10530), (10540, 10540), (10525, 10525), (10462, 10462), (10475, 10475), (10485, 10485), (10498, 10498), (10508, 10508), (10521, 10521)]
noncomputable def o31_1 (P : Program) : O := u34.use P D0 t31_0 11701 (o31_0 P) 2
theorem c31 : ((headO (o31_0 Tryz.prog), dumpH (hOf (o31_0 Tryz.prog)) (mapNs (rho t31_0 u34.nx0 11701) u34.k0), u34.chk t31_0 11701), finS (appL u33.k0 u33.k1) (o31_1 Tryz.prog)) = ((callH Tryz.prog u34.f u34.n (renL (rho t31_0 u34.nx0 11701) u34.args) 11701, rowsA (renRows (rho t31_0 u34.nx0 11701) u34.l0), true), some (.fin u33.v u33.h1 u33.nx1)) := by kernel_rfl
theorem u33_fine : (dumpH u33.h1 u33.k0, dumpH u33.h1 u33.k1) = (rowsA u33.l0, rowsA u33.l1) := by kernel_rfl
noncomputable def o32_0 (P : Program) : O := runS P D0 15 (u19.start P)
noncomputable def t32_0 : List (Nat × Nat) := [(9338, 9338), (9331, 9331), (9312, 9312), (9315, 9315), (9330, 9330), (9317, 9317), (9324, 9324), (9318, 9318), (9329, 9329), (9319, 9319), (9309, 9309)]
noncomputable def o32_1 (P : Program) : O := u21.use P D0 t32_0 9341 (o32_0 P) 10
noncomputable def t32_1 : List (Nat × Nat) := [(9331, 9331), (9312, 9312), (9315, 9315), (9330, 9330), (9317, 9317), (9324, 9324), (9318, 9318), (9329, 9329), (9319, 9319), (9309, 9309)]
noncomputable def o32_2 (P : Program) : O := u25.use P D0 t32_1 9752 (o32_1 P) 14
noncomputable def t32_2 : List (Nat × Nat) := [(9338, 9338), (9331, 9331), (10542, 10542), (10530, 10530), (10540, 10540), (10525, 10525), (10462, 10462), (10475, 10475), (10485, 10485), (10498, 10498), (10508, 10508), (10521, 10521), (9312, 9312), (9315, 9315), (9330, 9330), (9317, 9317), (9324, 9324), (9318, 9318), (9329, 9329), (9319, 9319), (9309, 9309)]
noncomputable def o32_3 (P : Program) : O := u26.use P D0 t32_2 10545 (o32_2 P) 8
noncomputable def t32_3 : List (Nat × Nat) := [(9338, 9338), (9331, 9331), (10542, 10542), (10530, 10530), (10540, 10540), (10525, 10525), (10462, 10462), (10475, 10475), (10485, 10485), (10498, 10498), (10508, 10508), (10521, 10521), (9312, 9312), (9315, 9315), (9330, 9330), (9317, 9317), (9324, 9324), (9318, 9318), (9329, 9329), (9319, 9319), (9309, 9309)]
noncomputable def o32_4 (P : Program) : O := u30.use P D0 t32_3 11083 (o32_3 P) 8
noncomputable def t32_4 : List (Nat × Nat) := [(9338, 9338), (9331, 9331), (10542, 10542), (10530, 10530), (10540, 10540), (10525, 10525), (10462, 10462), (10475, 10475), (10485, 10485), (10498, 10498), (10508, 10508), (10521, 10521), (9312, 9312), (9315, 9315), (9330, 9330), (9317, 9317), (9324, 9324), (9318, 9318), (9329, 9329), (9319, 9319), (9309, 9309)]
noncomputable def o32_5 (P : Program) : O := u33.use P D0 t32_4 11700 (o32_4 P) 11
theorem c32 : ((headO (o32_0 Tryz.prog), dumpH (hOf (o32_0 Tryz.prog)) (mapNs (rho t32_0 u21.nx0 9341) u21.k0), u21.chk t32_0 9341), ((headO (o32_1 Tryz.prog), dumpH (hOf (o32_1 Tryz.prog)) (mapNs (rho t32_1 u25.nx0 9752) u25.k0), u25.chk t32_1 9752), ((headO (o32_2 Tryz.prog), dumpH (hOf (o32_2 Tryz.prog)) (mapNs (rho t32_2 u26.nx0 10545) u26.k0), u26.chk t32_2 10545), ((headO (o32_3 Tryz.prog), dumpH (hOf (o32_3 Tryz.prog)) (mapNs (rho t32_3 u30.nx0 11083) u30.k0), u30.chk t32_3 11083), ((headO (o32_4 Tryz.prog), dumpH (hOf (o32_4 Tryz.prog)) (mapNs (rho t32_4 u33.nx0 11700) u33.k0), u33.chk t32_4 11700), finS (appL u19.k0 u19.k1) (o32_5 Tryz.prog)))))) = ((callH Tryz.prog u21.f u21.n (renL (rho t32_0 u21.nx0 9341) u21.args) 9341, rowsA (renRows (rho t32_0 u21.nx0 9341) u21.l0), true), ((callH Tryz.prog u25.f u25.n (renL (rho t32_1 u25.nx0 9752) u25.args) 9752, rowsA (renRows (rho t32_1 u25.nx0 9752) u25.l0), true), ((callH Tryz.prog u26.f u26.n (renL (rho t32_2 u26.nx0 10545) u26.args) 10545, rowsA (renRows (rho t32_2 u26.nx0 10545) u26.l0), true), ((callH Tryz.prog u30.f u30.n (renL (rho t32_3 u30.nx0 11083) u30.args) 11083, rowsA (renRows (rho t32_3 u30.nx0 11083) u30.l0), true), ((callH Tryz.prog u33.f u33.n (renL (rho t32_4 u33.nx0 11700) u33.args) 11700, rowsA (renRows (rho t32_4 u33.nx0 11700) u33.l0), true), some (.fin u19.v u19.h1 u19.nx1)))))) := by kernel_rfl
theorem u19_fine : (dumpH u19.h1 u19.k0, dumpH u19.h1 u19.k1) = (rowsA u19.l0, rowsA u19.l1) := by kernel_rfl
noncomputable def o33_0 (P : Program) : O := runS P D0 15 (u36.start P)
noncomputable def t33_0 : List (Nat × Nat) := [(9338, 14875), (9331, 9331), (9312, 9312), (9315, 9315), (9330, 9330), (9317, 9317), (9324, 9324), (9318, 9318), (9329, 9329), (9319, 9319), (9309, 9309)]
noncomputable def o33_1 (P : Program) : O := u21.use P D0 t33_0 14878 (o33_0 P) 10
noncomputable def t33_1 : List (Nat × Nat) := [(9331, 9331), (9312, 9312), (9315, 9315), (9330, 9330), (9317, 9317), (9324, 9324), (9318, 9318), (9329, 9329), (9319, 9319), (9309, 9309)]
noncomputable def o33_2 (P : Program) : O := u25.use P D0 t33_1 15289 (o33_1 P) 14
noncomputable def t33_2 : List (Nat × Nat) := [(9338, 14875), (9331, 9331), (10542, 16079), (10530, 16067), (10540, 16077), (10525, 16062), (10462, 15999), (10475, 16012), (10485, 16022), (10498, 16035), (10508, 16045), (10521, 16058), (9312, 9312), (9315, 9315), (9330, 9330), (9317, 9317), (9324, 9324), (9318, 9318), (9329, 9329), (9319, 9319), (9309, 9309)]
noncomputable def o33_3 (P : Program) : O := u26.use P D0 t33_2 16082 (o33_2 P) 8
noncomputable def t33_3 : List (Nat × Nat) := [(9338, 14875), (9331, 9331), (10542, 16079), (10530, 16067), (10540, 16077), (10525, 16062), (10462, 15999), (10475, 16012), (10485, 16022), (10498, 16035), (10508, 16045), (10521, 16058), (9312, 9312), (9315, 9315), (9330, 9330), (9317, 9317), (9324, 9324), (9318, 9318), (9329, 9329), (9319, 9319), (9309, 9309)]
noncomputable def o33_4 (P : Program) : O := u30.use P D0 t33_3 16620 (o33_3 P) 8
noncomputable def t33_4 : List (Nat × Nat) := [(9338, 14875), (9331, 9331), (10542, 16079), (10530, 16067), (10540, 16077), (10525, 16062), (10462, 15999), (10475, 16012), (10485, 16022), (10498, 16035), (10508, 16045), (10521, 16058), (9312, 9312), (9315, 9315), (9330, 9330), (9317, 9317), (9324, 9324), (9318, 9318), (9329, 9329), (9319, 9319), (9309, 9309)]
noncomputable def o33_5 (P : Program) : O := u33.use P D0 t33_4 17237 (o33_4 P) 14
theorem c33 : ((headO (o33_0 Tryz.prog), dumpH (hOf (o33_0 Tryz.prog)) (mapNs (rho t33_0 u21.nx0 14878) u21.k0), u21.chk t33_0 14878), ((headO (o33_1 Tryz.prog), dumpH (hOf (o33_1 Tryz.prog)) (mapNs (rho t33_1 u25.nx0 15289) u25.k0), u25.chk t33_1 15289), ((headO (o33_2 Tryz.prog), dumpH (hOf (o33_2 Tryz.prog)) (mapNs (rho t33_2 u26.nx0 16082) u26.k0), u26.chk t33_2 16082), ((headO (o33_3 Tryz.prog), dumpH (hOf (o33_3 Tryz.prog)) (mapNs (rho t33_3 u30.nx0 16620) u30.k0), u30.chk t33_3 16620), ((headO (o33_4 Tryz.prog), dumpH (hOf (o33_4 Tryz.prog)) (mapNs (rho t33_4 u33.nx0 17237) u33.k0), u33.chk t33_4 17237), finS (appL u36.k0 u36.k1) (o33_5 Tryz.prog)))))) = ((callH Tryz.prog u21.f u21.n (renL (rho t33_0 u21.nx0 14878) u21.args) 14878, rowsA (renRows (rho t33_0 u21.nx0 14878) u21.l0), true), ((callH Tryz.prog u25.f u25.n (renL (rho t33_1 u25.nx0 15289) u25.args) 15289, rowsA (renRows (rho t33_1 u25.nx0 15289) u25.l0), true), ((callH Tryz.prog u26.f u26.n (renL (rho t33_2 u26.nx0 16082) u26.args) 16082, rowsA (renRows (rho t33_2 u26.nx0 16082) u26.l0), true), ((callH Tryz.prog u30.f u30.n (renL (rho t33_3 u30.nx0 16620) u30.args) 16620, rowsA (renRows (rho t33_3 u30.nx0 16620) u30.l0), true), ((callH Tryz.prog u33.f u33.n (renL (rho t33_4 u33.nx0 17237) u33.args) 17237, rowsA (renRows (rho t33_4 u33.nx0 17237) u33.l0), true), some (.fin u36.v u36.h1 u36.nx1)))))) := by kernel_rfl
theorem u36_fine : (dumpH u36.h1 u36.k0, dumpH u36.h1 u36.k1) = (rowsA u36.l0, rowsA u36.l1) := by kernel_rfl
end Go.Ax
