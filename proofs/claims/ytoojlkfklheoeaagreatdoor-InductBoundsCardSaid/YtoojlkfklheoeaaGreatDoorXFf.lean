/- The row's closed facts, one theorem each (third part). -/
import Derived.Test.YtoojlkfklheoeaaGreatDoorRows
import Derived.Test.YtoojlkfklheoeaaGreatDoorChecked
import Derived.JoinedOf
import Derived.KernelRfl
import GoSem.ClaimGoes
import Derived.Test.YtoojlkfklheoeaaGreatDoorXFa
namespace Go.Proofs.YtoojlkfklheoeaaGreatDoor
open Go
theorem facts11 : ((Rows.inductBoundsRow.recurses == Tryz.prog.recurses 3)) = true := by
  rw [recurses_eq, unfollowed_eq, clos]
  kernel_rfl
theorem facts13 : ((Rows.inductBoundsRow.maps == (Tryz.f3.params.toList ++ Rows.inductBoundsSpec.plain.varTypes Tryz.prog).any (Tryz.prog.mapsRec ·))) = true := by kernel_rfl
theorem facts14 : ((Rows.inductBoundsRow.ifaces == (Tryz.f3.params.toList ++ Rows.inductBoundsSpec.plain.varTypes Tryz.prog).any (Tryz.prog.ifacesRec ·))) = true := by kernel_rfl
theorem facts15 : ((Rows.inductBoundsRow.mapsOut == Tryz.prog.mapsAmong Tryz.f3.resultTypes.toList)) = true := by kernel_rfl
theorem facts16 : ((Rows.inductBoundsRow.loops == (Tryz.f3.params.toList ++ Rows.inductBoundsSpec.plain.varTypes Tryz.prog).any (Tryz.prog.loopsFrom ·))) = true := by kernel_rfl
theorem facts17 : ((Rows.inductBoundsRow.wideKeys == (Tryz.f3.params.toList ++ Rows.inductBoundsSpec.plain.varTypes Tryz.prog ++ Tryz.f3.resultTypes.toList).any (Tryz.prog.wideKeysFrom ·))) = true := by kernel_rfl
theorem facts18 : (Rows.inductBoundsSpec.vars.all (Tryz.prog.varReadable ·)) = true := by kernel_rfl
theorem facts19 : (Tryz.f3.resultTypes.all (fun t => Tryz.prog.readableRec t && decide (t < Tryz.prog.types.size))) = true := by kernel_rfl
theorem facts20 : ((Rows.inductBoundsRow.ifacesOut == Tryz.f3.resultTypes.toList.any (Tryz.prog.ifacesRec ·))) = true := by kernel_rfl
theorem facts21 : ((Rows.inductBoundsRow.loopsOut == Tryz.f3.resultTypes.toList.any (Tryz.prog.loopsFrom ·))) = true := by kernel_rfl
theorem facts22 : ((Rows.inductBoundsRow.plainKeys == Tryz.prog.plainKeys)) = true := by kernel_rfl
theorem facts23 : (Rows.inductBoundsRow.shortTexts.isNone) = true := by kernel_rfl
theorem facts24 : (Tryz.prog.stopsHeard) = true := by kernel_rfl
theorem facts25 : (Tryz.prog.mayEnter) = true := by kernel_rfl
theorem facts26 : ((Rows.inductBoundsRow.lifted == Tryz.prog.liftsFinal)) = true := by kernel_rfl
theorem facts27 : ((Tryz.prog.make == some Rows.inductBoundsRow.make)) = true := by kernel_rfl
theorem facts29 : ((Rows.inductBoundsRow.pinned == Rows.inductBoundsRow.pinnedBy)) = true := by kernel_rfl
theorem facts30 : ((Rows.inductBoundsRow.veiled == (Tryz.f3.params.toList ++ Rows.inductBoundsSpec.plain.varTypes Tryz.prog ++ Tryz.f3.resultTypes.toList).any (Tryz.prog.veiledRec ·))) = true := by kernel_rfl
theorem facts31 : (Rows.inductBoundsRow.veiledFits Tryz.prog Tryz.f3.params.toList (Tryz.f3.params.toList ++ Rows.inductBoundsSpec.plain.varTypes Tryz.prog ++ Tryz.f3.resultTypes.toList)) = true := by kernel_rfl
theorem named3 : Tryz.prog.funcNamed Rows.inductBoundsRow.func = some 3 := by kernel_rfl
theorem instance3 : Tryz.f3.isInstance Tryz.prog Rows.inductBoundsRow.origin Rows.inductBoundsRow.targs := of_decide_eq_true (by kernel_rfl)
theorem wrapper3 : Tryz.f3.isWrapper Tryz.prog Rows.inductBoundsRow.wrapper Rows.inductBoundsRow.mainSum := by
  unfold Func.isWrapper; first | (rw [if_pos (by decide +kernel)]; kernel_rfl) | (rw [if_neg (by decide +kernel)]; exact ⟨rfl, rfl⟩)
theorem noGo : Tryz.prog.funcs.any Func.goes = false := by kernel_rfl
end Go.Proofs.YtoojlkfklheoeaaGreatDoor
