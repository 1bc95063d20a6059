/- The closed run, as the kernel reckons it (RG). -/
import Derived.Test.YtoojlkfklheoeaaGreatDoorXRC1
import Derived.Test.YtoojlkfklheoeaaGreatDoorXRC2
import Derived.Test.YtoojlkfklheoeaaGreatDoorXRC3
import Derived.Test.YtoojlkfklheoeaaGreatDoorXRC4
import Derived.Test.YtoojlkfklheoeaaGreatDoorXRC5
import Derived.Test.YtoojlkfklheoeaaGreatDoorXRC6
import Derived.Test.YtoojlkfklheoeaaGreatDoorXRC7
import Derived.Test.YtoojlkfklheoeaaGreatDoorXRC8
import Derived.Test.YtoojlkfklheoeaaGreatDoorXRC9
import Derived.Test.YtoojlkfklheoeaaGreatDoorXRC10
import Derived.Test.YtoojlkfklheoeaaGreatDoorXRC11
import Derived.Test.YtoojlkfklheoeaaGreatDoorXRC12
import Derived.Test.YtoojlkfklheoeaaGreatDoorXRC13
import Derived.Test.YtoojlkfklheoeaaGreatDoorXRC14
import Derived.Test.YtoojlkfklheoeaaGreatDoorXRC15
import Derived.Test.YtoojlkfklheoeaaGreatDoorXRC16
namespace Go.Ax
open Go.Proofs
theorem g0 : Goe Tryz.prog D0 (u3.start Tryz.prog) (.fin u3.v u3.h1 u3.nx1) := goe_fin (goe_run 4010 (u3.start Tryz.prog)) (c0)
theorem u3_holds : u3.holds Tryz.prog D0 := holds_of g0
theorem g1 : Goe Tryz.prog D0 (u5.start Tryz.prog) (.fin u5.v u5.h1 u5.nx1) := goe_fin (goe_run 2595 (u5.start Tryz.prog)) (c1)
theorem u5_holds : u5.holds Tryz.prog D0 := holds_of g1
theorem g2 : Goe Tryz.prog D0 (u4.start Tryz.prog) (.fin u4.v u4.h1 u4.nx1) := goe_fin (goe_use (m := 2) u5_holds u5_fine (goe_run 2 (u4.start Tryz.prog)) (Prod.mk.inj c2).1) ((Prod.mk.inj c2).2)
theorem u4_holds : u4.holds Tryz.prog D0 := holds_of g2
theorem g3 : Goe Tryz.prog D0 (u8.start Tryz.prog) (.fin u8.v u8.h1 u8.nx1) := goe_fin (goe_use (m := 2) u5_holds u5_fine (goe_run 30 (u8.start Tryz.prog)) (Prod.mk.inj c3).1) ((Prod.mk.inj c3).2)
theorem u8_holds : u8.holds Tryz.prog D0 := holds_of g3
theorem g4 : Goe Tryz.prog D0 (u7.start Tryz.prog) (.fin u7.v u7.h1 u7.nx1) := goe_fin (goe_use (m := 295) u8_holds u8_fine (goe_run 2 (u7.start Tryz.prog)) (Prod.mk.inj c4).1) ((Prod.mk.inj c4).2)
theorem u7_holds : u7.holds Tryz.prog D0 := holds_of g4
theorem g5 : Goe Tryz.prog D0 (u6.start Tryz.prog) (.fin u6.v u6.h1 u6.nx1) := goe_fin (goe_use (m := 2) u7_holds u7_fine (goe_run 2 (u6.start Tryz.prog)) (Prod.mk.inj c5).1) ((Prod.mk.inj c5).2)
theorem u6_holds : u6.holds Tryz.prog D0 := holds_of g5
theorem g6 : Goe Tryz.prog D0 (u0.start Tryz.prog) (.fin u0.v u0.h1 u0.nx1) := goe_fin (goe_use (m := 2297) u6_holds u6_fine (goe_use (m := 8) u4_holds u4_fine (goe_use (m := 14) u3_holds u3_fine (goe_run 2218 (u0.start Tryz.prog)) (Prod.mk.inj c6).1) (Prod.mk.inj (Prod.mk.inj c6).2).1) (Prod.mk.inj (Prod.mk.inj (Prod.mk.inj c6).2).2).1) ((Prod.mk.inj (Prod.mk.inj (Prod.mk.inj c6).2).2).2)
theorem u0_holds : u0.holds Tryz.prog D0 := holds_of g6
theorem g7 : Goe Tryz.prog D0 (u11.start Tryz.prog) (.fin u11.v u11.h1 u11.nx1) := goe_fin (goe_run 4010 (u11.start Tryz.prog)) (c7)
theorem u11_holds : u11.holds Tryz.prog D0 := holds_of g7
theorem g8 : Goe Tryz.prog D0 (u12.start Tryz.prog) (.fin u12.v u12.h1 u12.nx1) := goe_fin (goe_use (m := 2) u5_holds u5_fine (goe_run 2 (u12.start Tryz.prog)) (Prod.mk.inj c8).1) ((Prod.mk.inj c8).2)
theorem u12_holds : u12.holds Tryz.prog D0 := holds_of g8
theorem g9 : Goe Tryz.prog D0 (u13.start Tryz.prog) (.fin u13.v u13.h1 u13.nx1) := goe_fin (goe_use (m := 2) u7_holds u7_fine (goe_run 2 (u13.start Tryz.prog)) (Prod.mk.inj c9).1) ((Prod.mk.inj c9).2)
theorem u13_holds : u13.holds Tryz.prog D0 := holds_of g9
theorem g10 : Goe Tryz.prog D0 (m0.start Tryz.prog) (sm0_1 Tryz.prog) := goe_next (goe_use (m := 5401) u6_holds u6_fine (goe_use (m := 8) u4_holds u4_fine (goe_use (m := 14) u3_holds u3_fine (goe_use (m := 2242) u0_holds u0_fine (goe_use (m := 41) u0_holds u0_fine (goe_run 48 (m0.start Tryz.prog)) (Prod.mk.inj c10).1) (Prod.mk.inj (Prod.mk.inj c10).2).1) (Prod.mk.inj (Prod.mk.inj (Prod.mk.inj c10).2).2).1) (Prod.mk.inj (Prod.mk.inj (Prod.mk.inj (Prod.mk.inj c10).2).2).2).1) (Prod.mk.inj (Prod.mk.inj (Prod.mk.inj (Prod.mk.inj (Prod.mk.inj c10).2).2).2).2).1) ((Prod.mk.inj (Prod.mk.inj (Prod.mk.inj (Prod.mk.inj (Prod.mk.inj c10).2).2).2).2).2)
theorem g11 : Goe Tryz.prog D0 (sm0_1 Tryz.prog) (sm0_2 Tryz.prog) := goe_next (goe_use (m := 2684) u13_holds u13_fine (goe_use (m := 8) u12_holds u12_fine (goe_use (m := 14) u11_holds u11_fine (goe_use (m := 4518) u13_holds u13_fine (goe_use (m := 8) u12_holds u12_fine (goe_use (m := 14) u11_holds u11_fine (goe_run 310 (sm0_1 Tryz.prog)) (Prod.mk.inj c11).1) (Prod.mk.inj (Prod.mk.inj c11).2).1) (Prod.mk.inj (Prod.mk.inj (Prod.mk.inj c11).2).2).1) (Prod.mk.inj (Prod.mk.inj (Prod.mk.inj (Prod.mk.inj c11).2).2).2).1) (Prod.mk.inj (Prod.mk.inj (Prod.mk.inj (Prod.mk.inj (Prod.mk.inj c11).2).2).2).2).1) (Prod.mk.inj (Prod.mk.inj (Prod.mk.inj (Prod.mk.inj (Prod.mk.inj (Prod.mk.inj c11).2).2).2).2).2).1) ((Prod.mk.inj (Prod.mk.inj (Prod.mk.inj (Prod.mk.inj (Prod.mk.inj (Prod.mk.inj c11).2).2).2).2).2).2)
theorem g12 : Goe Tryz.prog D0 (u15.start Tryz.prog) (.fin u15.v u15.h1 u15.nx1) := goe_fin (goe_run 2599 (u15.start Tryz.prog)) (c12)
theorem u15_holds : u15.holds Tryz.prog D0 := holds_of g12
theorem g13 : Goe Tryz.prog D0 (u14.start Tryz.prog) (.fin u14.v u14.h1 u14.nx1) := goe_fin (goe_use (m := 546) u15_holds u15_fine (goe_run 2 (u14.start Tryz.prog)) (Prod.mk.inj c13).1) ((Prod.mk.inj c13).2)
theorem u14_holds : u14.holds Tryz.prog D0 := holds_of g13
theorem g14 : Goe Tryz.prog D0 (u18.start Tryz.prog) (.fin u18.v u18.h1 u18.nx1) := goe_fin (goe_run 2599 (u18.start Tryz.prog)) (c14)
theorem u18_holds : u18.holds Tryz.prog D0 := holds_of g14
theorem g15 : Goe Tryz.prog D0 (u17.start Tryz.prog) (.fin u17.v u17.h1 u17.nx1) := goe_fin (goe_use (m := 546) u18_holds u18_fine (goe_run 2 (u17.start Tryz.prog)) (Prod.mk.inj c15).1) ((Prod.mk.inj c15).2)
theorem u17_holds : u17.holds Tryz.prog D0 := holds_of g15
theorem g16 : Goe Tryz.prog D0 (u16.start Tryz.prog) (.fin u16.v u16.h1 u16.nx1) := goe_fin (goe_use (m := 595) u17_holds u17_fine (goe_run 30 (u16.start Tryz.prog)) (Prod.mk.inj c16).1) ((Prod.mk.inj c16).2)
theorem u16_holds : u16.holds Tryz.prog D0 := holds_of g16
theorem g17 : Goe Tryz.prog D0 (sm0_2 Tryz.prog) (sm0_3 Tryz.prog) := goe_next (goe_use (m := 2803) u18_holds u18_fine (goe_use (m := 383) u16_holds u16_fine (goe_use (m := 44) u16_holds u16_fine (goe_use (m := 2652) u14_holds u14_fine (goe_use (m := 14) u14_holds u14_fine (goe_run 2843 (sm0_2 Tryz.prog)) (Prod.mk.inj c17).1) (Prod.mk.inj (Prod.mk.inj c17).2).1) (Prod.mk.inj (Prod.mk.inj (Prod.mk.inj c17).2).2).1) (Prod.mk.inj (Prod.mk.inj (Prod.mk.inj (Prod.mk.inj c17).2).2).2).1) (Prod.mk.inj (Prod.mk.inj (Prod.mk.inj (Prod.mk.inj (Prod.mk.inj c17).2).2).2).2).1) ((Prod.mk.inj (Prod.mk.inj (Prod.mk.inj (Prod.mk.inj (Prod.mk.inj c17).2).2).2).2).2)
theorem g18 : Goe Tryz.prog D0 (u23.start Tryz.prog) (.fin u23.v u23.h1 u23.nx1) := goe_fin (goe_run 3409 (u23.start Tryz.prog)) (c18)
theorem u23_holds : u23.holds Tryz.prog D0 := holds_of g18
theorem g19 : Goe Tryz.prog D0 (u22.start Tryz.prog) (.fin u22.v u22.h1 u22.nx1) := goe_fin (goe_use (m := 837) u23_holds u23_fine (goe_run 2 (u22.start Tryz.prog)) (Prod.mk.inj c19).1) ((Prod.mk.inj c19).2)
theorem u22_holds : u22.holds Tryz.prog D0 := holds_of g19
theorem g20 : Goe Tryz.prog D0 (u21.start Tryz.prog) (.fin u21.v u21.h1 u21.nx1) := goe_fin (goe_use (m := 2) u22_holds u22_fine (goe_run 2 (u21.start Tryz.prog)) (Prod.mk.inj c20).1) ((Prod.mk.inj c20).2)
theorem u21_holds : u21.holds Tryz.prog D0 := holds_of g20
theorem g21 : Goe Tryz.prog D0 (u25.start Tryz.prog) (.fin u25.v u25.h1 u25.nx1) := goe_fin (goe_use (m := 3544) u22_holds u22_fine (goe_run 2 (u25.start Tryz.prog)) (Prod.mk.inj c21).1) ((Prod.mk.inj c21).2)
theorem u25_holds : u25.holds Tryz.prog D0 := holds_of g21
theorem g22 : Goe Tryz.prog D0 (u29.start Tryz.prog) (.fin u29.v u29.h1 u29.nx1) := goe_fin (goe_run 3409 (u29.start Tryz.prog)) (c22)
theorem u29_holds : u29.holds Tryz.prog D0 := holds_of g22
theorem g23 : Goe Tryz.prog D0 (u28.start Tryz.prog) (.fin u28.v u28.h1 u28.nx1) := goe_fin (goe_use (m := 837) u29_holds u29_fine (goe_run 2 (u28.start Tryz.prog)) (Prod.mk.inj c23).1) ((Prod.mk.inj c23).2)
theorem u28_holds : u28.holds Tryz.prog D0 := holds_of g23
theorem g24 : Goe Tryz.prog D0 (u27.start Tryz.prog) (.fin u27.v u27.h1 u27.nx1) := goe_fin (goe_use (m := 894) u28_holds u28_fine (goe_run 30 (u27.start Tryz.prog)) (Prod.mk.inj c24).1) ((Prod.mk.inj c24).2)
theorem u27_holds : u27.holds Tryz.prog D0 := holds_of g24
theorem g25 : Goe Tryz.prog D0 (u26.start Tryz.prog) (.fin u26.v u26.h1 u26.nx1) := goe_fin (goe_use (m := 2) u27_holds u27_fine (goe_run 2 (u26.start Tryz.prog)) (Prod.mk.inj c25).1) ((Prod.mk.inj c25).2)
theorem u26_holds : u26.holds Tryz.prog D0 := holds_of g25
theorem g26 : Goe Tryz.prog D0 (u32.start Tryz.prog) (.fin u32.v u32.h1 u32.nx1) := goe_fin (goe_use (m := 2) u27_holds u27_fine (goe_run 30 (u32.start Tryz.prog)) (Prod.mk.inj c26).1) ((Prod.mk.inj c26).2)
theorem u32_holds : u32.holds Tryz.prog D0 := holds_of g26
theorem g27 : Goe Tryz.prog D0 (u31.start Tryz.prog) (.fin u31.v u31.h1 u31.nx1) := goe_fin (goe_use (m := 587) u32_holds u32_fine (goe_run 2 (u31.start Tryz.prog)) (Prod.mk.inj c27).1) ((Prod.mk.inj c27).2)
theorem u31_holds : u31.holds Tryz.prog D0 := holds_of g27
theorem g28 : Goe Tryz.prog D0 (u30.start Tryz.prog) (.fin u30.v u30.h1 u30.nx1) := goe_fin (goe_use (m := 2) u31_holds u31_fine (goe_run 2 (u30.start Tryz.prog)) (Prod.mk.inj c28).1) ((Prod.mk.inj c28).2)
theorem u30_holds : u30.holds Tryz.prog D0 := holds_of g28
theorem g29 : Goe Tryz.prog D0 (u35.start Tryz.prog) (.fin u35.v u35.h1 u35.nx1) := goe_fin (goe_use (m := 33) u29_holds u29_fine (goe_run 2 (u35.start Tryz.prog)) (Prod.mk.inj c29).1) ((Prod.mk.inj c29).2)
theorem u35_holds : u35.holds Tryz.prog D0 := holds_of g29
theorem g30 : Goe Tryz.prog D0 (u34.start Tryz.prog) (.fin u34.v u34.h1 u34.nx1) := goe_fin (goe_use (m := 1041) u35_holds u35_fine (goe_run 2 (u34.start Tryz.prog)) (Prod.mk.inj c30).1) ((Prod.mk.inj c30).2)
theorem u34_holds : u34.holds Tryz.prog D0 := holds_of g30
theorem g31 : Goe Tryz.prog D0 (u33.start Tryz.prog) (.fin u33.v u33.h1 u33.nx1) := goe_fin (goe_use (m := 2) u34_holds u34_fine (goe_run 2 (u33.start Tryz.prog)) (Prod.mk.inj c31).1) ((Prod.mk.inj c31).2)
theorem u33_holds : u33.holds Tryz.prog D0 := holds_of g31
theorem g32 : Goe Tryz.prog D0 (u19.start Tryz.prog) (.fin u19.v u19.h1 u19.nx1) := goe_fin (goe_use (m := 11) u33_holds u33_fine (goe_use (m := 8) u30_holds u30_fine (goe_use (m := 8) u26_holds u26_fine (goe_use (m := 14) u25_holds u25_fine (goe_use (m := 10) u21_holds u21_fine (goe_run 15 (u19.start Tryz.prog)) (Prod.mk.inj c32).1) (Prod.mk.inj (Prod.mk.inj c32).2).1) (Prod.mk.inj (Prod.mk.inj (Prod.mk.inj c32).2).2).1) (Prod.mk.inj (Prod.mk.inj (Prod.mk.inj (Prod.mk.inj c32).2).2).2).1) (Prod.mk.inj (Prod.mk.inj (Prod.mk.inj (Prod.mk.inj (Prod.mk.inj c32).2).2).2).2).1) ((Prod.mk.inj (Prod.mk.inj (Prod.mk.inj (Prod.mk.inj (Prod.mk.inj c32).2).2).2).2).2)
theorem u19_holds : u19.holds Tryz.prog D0 := holds_of g32
theorem g33 : Goe Tryz.prog D0 (u36.start Tryz.prog) (.fin u36.v u36.h1 u36.nx1) := goe_fin (goe_use (m := 14) u33_holds u33_fine (goe_use (m := 8) u30_holds u30_fine (goe_use (m := 8) u26_holds u26_fine (goe_use (m := 14) u25_holds u25_fine (goe_use (m := 10) u21_holds u21_fine (goe_run 15 (u36.start Tryz.prog)) (Prod.mk.inj c33).1) (Prod.mk.inj (Prod.mk.inj c33).2).1) (Prod.mk.inj (Prod.mk.inj (Prod.mk.inj c33).2).2).1) (Prod.mk.inj (Prod.mk.inj (Prod.mk.inj (Prod.mk.inj c33).2).2).2).1) (Prod.mk.inj (Prod.mk.inj (Prod.mk.inj (Prod.mk.inj (Prod.mk.inj c33).2).2).2).2).1) ((Prod.mk.inj (Prod.mk.inj (Prod.mk.inj (Prod.mk.inj (Prod.mk.inj c33).2).2).2).2).2)
theorem u36_holds : u36.holds Tryz.prog D0 := holds_of g33
theorem g34 : Goe Tryz.prog D0 (u38.start Tryz.prog) (.fin u38.v u38.h1 u38.nx1) := goe_fin (goe_use (m := 2) u28_holds u28_fine (goe_run 2 (u38.start Tryz.prog)) (Prod.mk.inj c34).1) ((Prod.mk.inj c34).2)
theorem u38_holds : u38.holds Tryz.prog D0 := holds_of g34
theorem g35 : Goe Tryz.prog D0 (u40.start Tryz.prog) (.fin u40.v u40.h1 u40.nx1) := goe_fin (goe_use (m := 3544) u28_holds u28_fine (goe_run 2 (u40.start Tryz.prog)) (Prod.mk.inj c35).1) ((Prod.mk.inj c35).2)
theorem u40_holds : u40.holds Tryz.prog D0 := holds_of g35
theorem g36 : Goe Tryz.prog D0 (u41.start Tryz.prog) (.fin u41.v u41.h1 u41.nx1) := goe_fin (goe_use (m := 2) u27_holds u27_fine (goe_run 2 (u41.start Tryz.prog)) (Prod.mk.inj c36).1) ((Prod.mk.inj c36).2)
theorem u41_holds : u41.holds Tryz.prog D0 := holds_of g36
theorem g37 : Goe Tryz.prog D0 (u42.start Tryz.prog) (.fin u42.v u42.h1 u42.nx1) := goe_fin (goe_use (m := 2) u31_holds u31_fine (goe_run 2 (u42.start Tryz.prog)) (Prod.mk.inj c37).1) ((Prod.mk.inj c37).2)
theorem u42_holds : u42.holds Tryz.prog D0 := holds_of g37
theorem g38 : Goe Tryz.prog D0 (u43.start Tryz.prog) (.fin u43.v u43.h1 u43.nx1) := goe_fin (goe_use (m := 2) u34_holds u34_fine (goe_run 2 (u43.start Tryz.prog)) (Prod.mk.inj c38).1) ((Prod.mk.inj c38).2)
theorem u43_holds : u43.holds Tryz.prog D0 := holds_of g38
theorem g39 : Goe Tryz.prog D0 (u44.start Tryz.prog) (.fin u44.v u44.h1 u44.nx1) := goe_fin (goe_run 372 (u44.start Tryz.prog)) (c39)
theorem u44_holds : u44.holds Tryz.prog D0 := holds_of g39
theorem g40 : Goe Tryz.prog D0 (sm0_3 Tryz.prog) (sm0_4 Tryz.prog) := goe_next (goe_use (m := 1698) u44_holds u44_fine (goe_use (m := 1013) u43_holds u43_fine (goe_use (m := 8) u42_holds u42_fine (goe_use (m := 8) u41_holds u41_fine (goe_use (m := 14) u40_holds u40_fine (goe_use (m := 10) u38_holds u38_fine (goe_use (m := 29) u43_holds u43_fine (goe_use (m := 8) u42_holds u42_fine (goe_use (m := 8) u41_holds u41_fine (goe_use (m := 14) u40_holds u40_fine (goe_use (m := 10) u38_holds u38_fine (goe_use (m := 2481) u36_holds u36_fine (goe_use (m := 24) u19_holds u19_fine (goe_use (m := 41) u19_holds u19_fine (goe_run 1761 (sm0_3 Tryz.prog)) (Prod.mk.inj c40).1) (Prod.mk.inj (Prod.mk.inj c40).2).1) (Prod.mk.inj (Prod.mk.inj (Prod.mk.inj c40).2).2).1) (Prod.mk.inj (Prod.mk.inj (Prod.mk.inj (Prod.mk.inj c40).2).2).2).1) (Prod.mk.inj (Prod.mk.inj (Prod.mk.inj (Prod.mk.inj (Prod.mk.inj c40).2).2).2).2).1) (Prod.mk.inj (Prod.mk.inj (Prod.mk.inj (Prod.mk.inj (Prod.mk.inj (Prod.mk.inj c40).2).2).2).2).2).1) (Prod.mk.inj (Prod.mk.inj (Prod.mk.inj (Prod.mk.inj (Prod.mk.inj (Prod.mk.inj (Prod.mk.inj c40).2).2).2).2).2).2).1) (Prod.mk.inj (Prod.mk.inj (Prod.mk.inj (Prod.mk.inj (Prod.mk.inj (Prod.mk.inj (Prod.mk.inj (Prod.mk.inj c40).2).2).2).2).2).2).2).1) (Prod.mk.inj (Prod.mk.inj (Prod.mk.inj (Prod.mk.inj (Prod.mk.inj (Prod.mk.inj (Prod.mk.inj (Prod.mk.inj (Prod.mk.inj c40).2).2).2).2).2).2).2).2).1) (Prod.mk.inj (Prod.mk.inj (Prod.mk.inj (Prod.mk.inj (Prod.mk.inj (Prod.mk.inj (Prod.mk.inj (Prod.mk.inj (Prod.mk.inj (Prod.mk.inj c40).2).2).2).2).2).2).2).2).2).1) (Prod.mk.inj (Prod.mk.inj (Prod.mk.inj (Prod.mk.inj (Prod.mk.inj (Prod.mk.inj (Prod.mk.inj (Prod.mk.inj (Prod.mk.inj (Prod.mk.inj (Prod.mk.inj c40).2).2).2).2).2).2).2).2).2).2).1) (Prod.mk.inj (Prod.mk.inj (Prod.mk.inj (Prod.mk.inj (Prod.mk.inj (Prod.mk.inj (Prod.mk.inj (Prod.mk.inj (Prod.mk.inj (Prod.mk.inj (Prod.mk.inj (Prod.mk.inj c40).2).2).2).2).2).2).2).2).2).2).2).1) (Prod.mk.inj (Prod.mk.inj (Prod.mk.inj (Prod.mk.inj (Prod.mk.inj (Prod.mk.inj (Prod.mk.inj (Prod.mk.inj (Prod.mk.inj (Prod.mk.inj (Prod.mk.inj (Prod.mk.inj (Prod.mk.inj c40).2).2).2).2).2).2).2).2).2).2).2).2).1) (Prod.mk.inj (Prod.mk.inj (Prod.mk.inj (Prod.mk.inj (Prod.mk.inj (Prod.mk.inj (Prod.mk.inj (Prod.mk.inj (Prod.mk.inj (Prod.mk.inj (Prod.mk.inj (Prod.mk.inj (Prod.mk.inj (Prod.mk.inj c40).2).2).2).2).2).2).2).2).2).2).2).2).2).1) ((Prod.mk.inj (Prod.mk.inj (Prod.mk.inj (Prod.mk.inj (Prod.mk.inj (Prod.mk.inj (Prod.mk.inj (Prod.mk.inj (Prod.mk.inj (Prod.mk.inj (Prod.mk.inj (Prod.mk.inj (Prod.mk.inj (Prod.mk.inj c40).2).2).2).2).2).2).2).2).2).2).2).2).2).2)
theorem g41 : Goe Tryz.prog D0 (u51.start Tryz.prog) (.fin u51.v u51.h1 u51.nx1) := goe_fin (goe_run 3409 (u51.start Tryz.prog)) (c41)
theorem u51_holds : u51.holds Tryz.prog D0 := holds_of g41
theorem g42 : Goe Tryz.prog D0 (u50.start Tryz.prog) (.fin u50.v u50.h1 u50.nx1) := goe_fin (goe_use (m := 837) u51_holds u51_fine (goe_run 2 (u50.start Tryz.prog)) (Prod.mk.inj c42).1) ((Prod.mk.inj c42).2)
theorem u50_holds : u50.holds Tryz.prog D0 := holds_of g42
theorem g43 : Goe Tryz.prog D0 (u49.start Tryz.prog) (.fin u49.v u49.h1 u49.nx1) := goe_fin (goe_use (m := 2) u50_holds u50_fine (goe_run 2 (u49.start Tryz.prog)) (Prod.mk.inj c43).1) ((Prod.mk.inj c43).2)
theorem u49_holds : u49.holds Tryz.prog D0 := holds_of g43
theorem g44 : Goe Tryz.prog D0 (u53.start Tryz.prog) (.fin u53.v u53.h1 u53.nx1) := goe_fin (goe_use (m := 3544) u50_holds u50_fine (goe_run 2 (u53.start Tryz.prog)) (Prod.mk.inj c44).1) ((Prod.mk.inj c44).2)
theorem u53_holds : u53.holds Tryz.prog D0 := holds_of g44
theorem g45 : Goe Tryz.prog D0 (u54.start Tryz.prog) (.fin u54.v u54.h1 u54.nx1) := goe_fin (goe_use (m := 2) u27_holds u27_fine (goe_run 2 (u54.start Tryz.prog)) (Prod.mk.inj c45).1) ((Prod.mk.inj c45).2)
theorem u54_holds : u54.holds Tryz.prog D0 := holds_of g45
theorem g46 : Goe Tryz.prog D0 (u55.start Tryz.prog) (.fin u55.v u55.h1 u55.nx1) := goe_fin (goe_use (m := 2) u31_holds u31_fine (goe_run 2 (u55.start Tryz.prog)) (Prod.mk.inj c46).1) ((Prod.mk.inj c46).2)
theorem u55_holds : u55.holds Tryz.prog D0 := holds_of g46
theorem g47 : Goe Tryz.prog D0 (u56.start Tryz.prog) (.fin u56.v u56.h1 u56.nx1) := goe_fin (goe_use (m := 2) u34_holds u34_fine (goe_run 2 (u56.start Tryz.prog)) (Prod.mk.inj c47).1) ((Prod.mk.inj c47).2)
theorem u56_holds : u56.holds Tryz.prog D0 := holds_of g47
theorem g48 : Goe Tryz.prog D0 (u47.start Tryz.prog) (.fin u47.v u47.h1 u47.nx1) := goe_fin (goe_use (m := 11) u56_holds u56_fine (goe_use (m := 8) u55_holds u55_fine (goe_use (m := 8) u54_holds u54_fine (goe_use (m := 14) u53_holds u53_fine (goe_use (m := 10) u49_holds u49_fine (goe_run 15 (u47.start Tryz.prog)) (Prod.mk.inj c48).1) (Prod.mk.inj (Prod.mk.inj c48).2).1) (Prod.mk.inj (Prod.mk.inj (Prod.mk.inj c48).2).2).1) (Prod.mk.inj (Prod.mk.inj (Prod.mk.inj (Prod.mk.inj c48).2).2).2).1) (Prod.mk.inj (Prod.mk.inj (Prod.mk.inj (Prod.mk.inj (Prod.mk.inj c48).2).2).2).2).1) ((Prod.mk.inj (Prod.mk.inj (Prod.mk.inj (Prod.mk.inj (Prod.mk.inj c48).2).2).2).2).2)
theorem u47_holds : u47.holds Tryz.prog D0 := holds_of g48
theorem g49 : Goe Tryz.prog D0 (u46.start Tryz.prog) (.fin u46.v u46.h1 u46.nx1) := goe_fin (goe_use (m := 190) u47_holds u47_fine (goe_use (m := 1) u44_holds u44_fine (goe_run 152 (u46.start Tryz.prog)) (Prod.mk.inj c49).1) (Prod.mk.inj (Prod.mk.inj c49).2).1) ((Prod.mk.inj (Prod.mk.inj c49).2).2)
theorem u46_holds : u46.holds Tryz.prog D0 := holds_of g49
theorem g50 : Goe Tryz.prog D0 (u45.start Tryz.prog) (.fin u45.v u45.h1 u45.nx1) := goe_fin (goe_use (m := 1085) u46_holds u46_fine (goe_run 2 (u45.start Tryz.prog)) (Prod.mk.inj c50).1) ((Prod.mk.inj c50).2)
theorem u45_holds : u45.holds Tryz.prog D0 := holds_of g50
theorem g51 : Goe Tryz.prog D0 (u57.start Tryz.prog) (.fin u57.v u57.h1 u57.nx1) := goe_fin (goe_use (m := 2435) u44_holds u44_fine (goe_use (m := 999) u36_holds u36_fine (goe_use (m := 3) u19_holds u19_fine (goe_run 2 (u57.start Tryz.prog)) (Prod.mk.inj c51).1) (Prod.mk.inj (Prod.mk.inj c51).2).1) (Prod.mk.inj (Prod.mk.inj (Prod.mk.inj c51).2).2).1) ((Prod.mk.inj (Prod.mk.inj (Prod.mk.inj c51).2).2).2)
theorem u57_holds : u57.holds Tryz.prog D0 := holds_of g51
theorem g52 : Goe Tryz.prog D0 (sm0_4 Tryz.prog) (sm0_5 Tryz.prog) := goe_next (goe_use (m := 4287) u57_holds u57_fine (goe_use (m := 1828) u45_holds u45_fine (goe_use (m := 24) u57_holds u57_fine (goe_use (m := 2107) u45_holds u45_fine (goe_run 740 (sm0_4 Tryz.prog)) (Prod.mk.inj c52).1) (Prod.mk.inj (Prod.mk.inj c52).2).1) (Prod.mk.inj (Prod.mk.inj (Prod.mk.inj c52).2).2).1) (Prod.mk.inj (Prod.mk.inj (Prod.mk.inj (Prod.mk.inj c52).2).2).2).1) ((Prod.mk.inj (Prod.mk.inj (Prod.mk.inj (Prod.mk.inj c52).2).2).2).2)
theorem g53 : Goe Tryz.prog D0 (u58.start Tryz.prog) (.fin u58.v u58.h1 u58.nx1) := goe_fin (goe_run 25 (u58.start Tryz.prog)) (c53)
theorem u58_holds : u58.holds Tryz.prog D0 := holds_of g53
theorem g54 : Goe Tryz.prog D0 (u63.start Tryz.prog) (.fin u63.v u63.h1 u63.nx1) := goe_fin (goe_run 3184 (u63.start Tryz.prog)) (c54)
theorem u63_holds : u63.holds Tryz.prog D0 := holds_of g54
theorem g56 : Goe Tryz.prog D0 (u60.start Tryz.prog) (su60_1 Tryz.prog) := goe_next (goe_use (m := 6145) u63_holds u63_fine (goe_run 1789 (u60.start Tryz.prog)) (Prod.mk.inj c56).1) ((Prod.mk.inj c56).2)
theorem g57 : Goe Tryz.prog D0 (su60_1 Tryz.prog) (.fin u60.v u60.h1 u60.nx1) := goe_fin (goe_run 298 (su60_1 Tryz.prog)) (c57)
theorem u60_holds : u60.holds Tryz.prog D0 := holds_of (Goe.trans g56 g57)
theorem g58 : Goe Tryz.prog D0 (u59.start Tryz.prog) (.fin u59.v u59.h1 u59.nx1) := goe_fin (goe_use (m := 34) u60_holds u60_fine (goe_run 2 (u59.start Tryz.prog)) (Prod.mk.inj c58).1) ((Prod.mk.inj c58).2)
theorem u59_holds : u59.holds Tryz.prog D0 := holds_of g58
theorem g59 : Goe Tryz.prog D0 (u64.start Tryz.prog) (.fin u64.v u64.h1 u64.nx1) := goe_fin (goe_use (m := 4341) u63_holds u63_fine (goe_run 1765 (u64.start Tryz.prog)) (Prod.mk.inj c59).1) ((Prod.mk.inj c59).2)
theorem u64_holds : u64.holds Tryz.prog D0 := holds_of g59
theorem g60 : Goe Tryz.prog D0 (sm0_5 Tryz.prog) (sm0_6 Tryz.prog) := goe_join (goe_use (m := 526) u64_holds u64_fine (goe_use (m := 5) u59_holds u59_fine (goe_use (m := 2) u58_holds u58_fine (goe_run 7 (sm0_5 Tryz.prog)) (Prod.mk.inj c60).1) (Prod.mk.inj (Prod.mk.inj c60).2).1) (Prod.mk.inj (Prod.mk.inj (Prod.mk.inj c60).2).2).1) ((Prod.mk.inj (Prod.mk.inj (Prod.mk.inj c60).2).2).2)
theorem g61 : Goe Tryz.prog D0 (sm0_6 Tryz.prog) (sm0_7 Tryz.prog) := goe_join (goe_run 555 (sm0_6 Tryz.prog)) (c61)
theorem g62 : Goe Tryz.prog D0 (sm0_7 Tryz.prog) (sm0_8 Tryz.prog) := goe_join (goe_use (m := 522) u64_holds u64_fine (goe_run 43 (sm0_7 Tryz.prog)) (Prod.mk.inj c62).1) ((Prod.mk.inj c62).2)
theorem g63 : Goe Tryz.prog D0 (sm0_8 Tryz.prog) (sm0_9 Tryz.prog) := goe_join (goe_run 568 (sm0_8 Tryz.prog)) (c63)
theorem g64 : Goe Tryz.prog D0 (sm0_9 Tryz.prog) (sm0_10 Tryz.prog) := goe_join (goe_use (m := 527) u64_holds u64_fine (goe_use (m := 5) u59_holds u59_fine (goe_use (m := 2) u58_holds u58_fine (goe_run 49 (sm0_9 Tryz.prog)) (Prod.mk.inj c64).1) (Prod.mk.inj (Prod.mk.inj c64).2).1) (Prod.mk.inj (Prod.mk.inj (Prod.mk.inj c64).2).2).1) ((Prod.mk.inj (Prod.mk.inj (Prod.mk.inj c64).2).2).2)
theorem g65 : Goe Tryz.prog D0 (sm0_10 Tryz.prog) (sm0_11 Tryz.prog) := goe_join (goe_run 554 (sm0_10 Tryz.prog)) (c65)
theorem g66 : Goe Tryz.prog D0 (sm0_11 Tryz.prog) (sm0_12 Tryz.prog) := goe_join (goe_use (m := 523) u64_holds u64_fine (goe_run 43 (sm0_11 Tryz.prog)) (Prod.mk.inj c66).1) ((Prod.mk.inj c66).2)
theorem g67 : Goe Tryz.prog D0 (sm0_12 Tryz.prog) (sm0_13 Tryz.prog) := goe_join (goe_run 567 (sm0_12 Tryz.prog)) (c67)
theorem g68 : GoeT Tryz.prog D0 (sm0_13 Tryz.prog) := goe_true (goe_run 51 (sm0_13 Tryz.prog)) (c68)
theorem m0_goes : GoeT Tryz.prog D0 (m0.start Tryz.prog) := (GoeT.trans g10 (GoeT.trans g11 (GoeT.trans g17 (GoeT.trans g40 (GoeT.trans g52 (GoeT.trans g60 (GoeT.trans g61 (GoeT.trans g62 (GoeT.trans g63 (GoeT.trans g64 (GoeT.trans g65 (GoeT.trans g66 (GoeT.trans g67 g68)))))))))))))
end Go.Ax
