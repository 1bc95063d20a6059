/- The row's closed facts, one theorem each (second part). -/
import Derived.Test.YtlfocffihiephaaGreatDoorRows
import Derived.Test.YtlfocffihiephaaGreatDoorChecked
import Derived.JoinedOf
import Derived.KernelRfl
import GoSem.ClaimGoes
namespace Go.Proofs.YtlfocffihiephaaGreatDoor
open Go
theorem facts11 : ((Rows.transNilRow.recurses == Tryz.prog.recurses 3)) = true := by kernel_rfl
theorem facts12 : ((Rows.transNilRow.named == Tryz.prog.varsNamed 3)) = true := by kernel_rfl
theorem facts13 : ((Rows.transNilRow.maps == (Tryz.f3.params.toList ++ Rows.transNilSpec.plain.varTypes Tryz.prog).any (Tryz.prog.mapsRec ·))) = true := by kernel_rfl
theorem facts14 : ((Rows.transNilRow.ifaces == (Tryz.f3.params.toList ++ Rows.transNilSpec.plain.varTypes Tryz.prog).any (Tryz.prog.ifacesRec ·))) = true := by kernel_rfl
theorem facts15 : ((Rows.transNilRow.mapsOut == Tryz.prog.mapsAmong Tryz.f3.resultTypes.toList)) = true := by kernel_rfl
theorem facts16 : ((Rows.transNilRow.loops == (Tryz.f3.params.toList ++ Rows.transNilSpec.plain.varTypes Tryz.prog).any (Tryz.prog.loopsFrom ·))) = true := by kernel_rfl
theorem facts17 : ((Rows.transNilRow.wideKeys == (Tryz.f3.params.toList ++ Rows.transNilSpec.plain.varTypes Tryz.prog ++ Tryz.f3.resultTypes.toList).any (Tryz.prog.wideKeysFrom ·))) = true := by kernel_rfl
theorem facts18 : (Rows.transNilSpec.vars.all (Tryz.prog.varReadable ·)) = true := by kernel_rfl
theorem facts19 : (Tryz.f3.resultTypes.all (fun t => Tryz.prog.readableRec t && decide (t < Tryz.prog.types.size))) = true := by kernel_rfl
theorem facts20 : ((Rows.transNilRow.ifacesOut == Tryz.f3.resultTypes.toList.any (Tryz.prog.ifacesRec ·))) = true := by kernel_rfl
theorem facts21 : ((Rows.transNilRow.loopsOut == Tryz.f3.resultTypes.toList.any (Tryz.prog.loopsFrom ·))) = true := by kernel_rfl
theorem facts22 : ((Rows.transNilRow.plainKeys == Tryz.prog.plainKeys)) = true := by kernel_rfl
theorem facts23 : (Rows.transNilRow.shortTexts.isNone) = true := by kernel_rfl
theorem facts24 : (Tryz.prog.stopsHeard) = true := by kernel_rfl
theorem facts25 : (Tryz.prog.mayEnter) = true := by kernel_rfl
theorem facts26 : ((Rows.transNilRow.lifted == Tryz.prog.liftsFinal)) = true := by kernel_rfl
theorem facts27 : ((Tryz.prog.make == some Rows.transNilRow.make)) = true := by kernel_rfl
theorem facts29 : ((Rows.transNilRow.pinned == Rows.transNilRow.pinnedBy)) = true := by kernel_rfl
theorem facts30 : ((Rows.transNilRow.veiled == (Tryz.f3.params.toList ++ Rows.transNilSpec.plain.varTypes Tryz.prog ++ Tryz.f3.resultTypes.toList).any (Tryz.prog.veiledRec ·))) = true := by kernel_rfl
theorem facts31 : (Rows.transNilRow.veiledFits Tryz.prog Tryz.f3.params.toList (Tryz.f3.params.toList ++ Rows.transNilSpec.plain.varTypes Tryz.prog ++ Tryz.f3.resultTypes.toList)) = true := by kernel_rfl
theorem named3 : Tryz.prog.funcNamed Rows.transNilRow.func = some 3 := by kernel_rfl
theorem instance3 : Tryz.f3.isInstance Tryz.prog Rows.transNilRow.origin Rows.transNilRow.targs := of_decide_eq_true (by kernel_rfl)
theorem wrapper3 : Tryz.f3.isWrapper Tryz.prog Rows.transNilRow.wrapper Rows.transNilRow.mainSum := by
  unfold Func.isWrapper; first | (rw [if_pos (by decide +kernel)]; kernel_rfl) | (rw [if_neg (by decide +kernel)]; exact ⟨rfl, rfl⟩)
theorem noGo : Tryz.prog.funcs.any Func.goes = false := by kernel_rfl
end Go.Proofs.YtlfocffihiephaaGreatDoor
