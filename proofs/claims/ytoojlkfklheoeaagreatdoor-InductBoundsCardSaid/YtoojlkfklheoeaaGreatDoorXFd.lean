/- InductBounds: closed facts on the program's types. -/
import Derived.Test.YtoojlkfklheoeaaGreatDoorRows
import Derived.ProofKit
import Derived.Carry
import Derived.KernelRfl
namespace Go.Proofs.YtoojlkfklheoeaaGreatDoor
open Go Go.ChangeShapes Go.WideShapes Go.ChangeAt Go.RowKit
theorem own : ownKnob Tryz.prog.godebug = none := by kernel_rfl
theorem laidOut : laidOutB Tryz.prog = true := by kernel_rfl
theorem read25 : Tryz.prog.readableRec 25 = true := by kernel_rfl
theorem read9 : Tryz.prog.readableRec 9 = true := by kernel_rfl
theorem read3 : Tryz.prog.readableRec 3 = true := by kernel_rfl
theorem row25 : (25 : TypeId) < Tryz.prog.types.size := of_decide_eq_true (by kernel_rfl)
theorem row9 : (9 : TypeId) < Tryz.prog.types.size := of_decide_eq_true (by kernel_rfl)
theorem row3 : (3 : TypeId) < Tryz.prog.types.size := of_decide_eq_true (by kernel_rfl)
theorem cells25 : Tryz.prog.cellsOf 25 = 2 := by kernel_rfl

end Go.Proofs.YtoojlkfklheoeaaGreatDoor
