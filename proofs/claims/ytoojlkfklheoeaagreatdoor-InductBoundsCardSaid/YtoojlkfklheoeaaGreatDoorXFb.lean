/- The row's closed facts, one theorem each (second part). -/
import Derived.Test.YtoojlkfklheoeaaGreatDoorRows
import Derived.Test.YtoojlkfklheoeaaGreatDoorChecked
import Derived.JoinedOf
import Derived.KernelRfl
import GoSem.ClaimGoes
import Derived.Test.YtoojlkfklheoeaaGreatDoorXFe
namespace Go.Proofs.YtoojlkfklheoeaaGreatDoor
open Go
theorem facts12 : ((Rows.inductBoundsRow.named == Tryz.prog.varsNamed 3)) = true := by
  rw [show Tryz.prog.varsNamed 3 = Tryz.prog.varsOf (Tryz.prog.closure 3) from rfl, clos]
  kernel_rfl
end Go.Proofs.YtoojlkfklheoeaaGreatDoor
