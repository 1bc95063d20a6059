/- The row's closed facts, one theorem each (first part). -/
import Derived.Test.YtoojlkfklheoeaaGreatDoorRows
import Derived.Test.YtoojlkfklheoeaaGreatDoorChecked
import Derived.JoinedOf
import Derived.KernelRfl
import GoSem.ClaimGoes
import Derived.Test.YtoojlkfklheoeaaGreatDoorXFe
namespace Go.Proofs.YtoojlkfklheoeaaGreatDoor
open Go
theorem unfollowed_eq (P : Program) (f : FuncId) : P.unfollowed f = (P.closure f).any fun g => (P.funcs[g]?).any fun fn => match fn.body with | some c => c.unfollowed | none => entryCalls fn := rfl
theorem recurses_eq (P : Program) (f : FuncId) : P.recurses f = (P.unfollowed f || (P.closure f).any fun g => ((P.funcs[g]?).elim [] P.leadsTo).any fun h => (P.closure h).contains g) := rfl
theorem inPlace_eq (P : Program) (f : FuncId) : P.inPlace f = P.inPlaceOf (P.closure f) := rfl
theorem varsNamed_eq (P : Program) (f : FuncId) : P.varsNamed f = P.varsOf (P.closure f) := rfl
theorem facts0 : (Rows.inductBoundsRow.wf (OpenSpec.ofChange Rows.inductBoundsSpec)) = true := by kernel_rfl
theorem facts1 : (laidOutB Tryz.prog) = true := by kernel_rfl
theorem facts2 : (mapsRowed Tryz.prog) = true := by kernel_rfl
theorem facts3 : (Tryz.f3.params.all (Tryz.prog.readableRec ·)) = true := by kernel_rfl
theorem facts4 : (namedTie Tryz.prog Rows.inductBoundsRow.named Rows.inductBoundsSpec.vars) = true := by kernel_rfl
theorem facts5 : ((Rows.inductBoundsRow.stops == [])) = true := by kernel_rfl
theorem facts6 : ((Tryz.prog.stops == [])) = true := by kernel_rfl
theorem facts7 : ((Rows.inductBoundsRow.knobs == [])) = true := by kernel_rfl
theorem facts8 : ((Tryz.prog.stopKnobs == [])) = true := by kernel_rfl
theorem facts9 : ((Rows.inductBoundsRow.inPlace == Tryz.prog.inPlace 3)) = true := by
  rw [inPlace_eq, clos]
  kernel_rfl
theorem facts10 : ((Rows.inductBoundsRow.unfollowed == Tryz.prog.unfollowed 3)) = true := by
  rw [unfollowed_eq, clos]
  kernel_rfl
end Go.Proofs.YtoojlkfklheoeaaGreatDoor
