/- The row's closed facts, one theorem each (first part). -/
import Derived.Test.YtlfocffihiephaaGreatDoorRows
import Derived.Test.YtlfocffihiephaaGreatDoorChecked
import Derived.JoinedOf
import Derived.KernelRfl
import GoSem.ClaimGoes
namespace Go.Proofs.YtlfocffihiephaaGreatDoor
open Go
theorem facts0 : (Rows.transNilRow.wf (OpenSpec.ofChange Rows.transNilSpec)) = true := by kernel_rfl
theorem facts1 : (laidOutB Tryz.prog) = true := by kernel_rfl
theorem facts2 : (mapsRowed Tryz.prog) = true := by kernel_rfl
theorem facts3 : (Tryz.f3.params.all (Tryz.prog.readableRec ·)) = true := by kernel_rfl
theorem facts4 : (namedTie Tryz.prog Rows.transNilRow.named Rows.transNilSpec.vars) = true := by kernel_rfl
theorem facts5 : ((Rows.transNilRow.stops == [])) = true := by kernel_rfl
theorem facts6 : ((Tryz.prog.stops == [])) = true := by kernel_rfl
theorem facts7 : ((Rows.transNilRow.knobs == [])) = true := by kernel_rfl
theorem facts8 : ((Tryz.prog.stopKnobs == [])) = true := by kernel_rfl
theorem facts9 : ((Rows.transNilRow.inPlace == Tryz.prog.inPlace 3)) = true := by kernel_rfl
theorem facts10 : ((Rows.transNilRow.unfollowed == Tryz.prog.unfollowed 3)) = true := by kernel_rfl
end Go.Proofs.YtlfocffihiephaaGreatDoor
