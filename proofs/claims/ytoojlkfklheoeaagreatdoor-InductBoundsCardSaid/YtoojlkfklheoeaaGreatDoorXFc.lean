/- The row's closed facts, joined. -/
import Derived.Test.YtoojlkfklheoeaaGreatDoorXFa
import Derived.Test.YtoojlkfklheoeaaGreatDoorXFb
import Derived.Test.YtoojlkfklheoeaaGreatDoorXFf
namespace Go.Proofs.YtoojlkfklheoeaaGreatDoor
open Go
theorem both {a b : Bool} (ha : a = true) (hb : b = true) : (a && b) = true := by rw [ha, hb]; rfl
theorem facts : joinedFacts Tryz.prog 3 Tryz.f3 Rows.inductBoundsSpec Rows.inductBoundsRow = true := by
  unfold joinedFacts
  refine (both (both (both (both (both (both (both (both (both (both (both (both (both (both (both (both (both (both (both (both (both (both (both (both (both (both (both (both (both (both (both facts0 facts1) facts2) facts3) facts4) facts5) facts6) facts7) facts8) facts9) facts10) facts11) facts12) facts13) facts14) facts15) facts16) facts17) facts18) facts19) facts20) facts21) facts22) facts23) facts24) facts25) facts26) facts27) ?_) facts29) facts30) facts31)
  kernel_rfl
end Go.Proofs.YtoojlkfklheoeaaGreatDoor
