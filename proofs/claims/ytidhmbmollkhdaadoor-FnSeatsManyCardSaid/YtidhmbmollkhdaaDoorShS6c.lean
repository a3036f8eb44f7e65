/- Shallow functions, printed by a program off the translation. -/
import Derived.Test.YtidhmbmollkhdaaDoorShS6b
set_option linter.unusedVariables false
set_option maxRecDepth 10000
namespace Go.Proofs.YtidhmbmollkhdaaDoor
open Go Go.RowKit
noncomputable def laws_FnSeatsManyS (p0 : List Int) : Option Bool :=
  (if (decide ((List.length p0 : Int) > 1048576)) then (some true) else ((spec_DrawSeatsManyS p0).bind fun x2 => ((impl_SeatsManyS x2).bind fun x8 => ((spec_SeatsManyS x2).bind fun x13 => (if (x8 != x13) then (some false) else ((if ((List.length x2 : Int) == 0) then some (x8 == 0) else some false).bind fun b19 => ((if b19 then some true else ((if (decide ((List.length x2 : Int) > 0)) then ((appO ([]) x2).bind fun x24 => ((geti x2 0).bind fun x30 => ((appO x24 ([x30])).bind fun x44 => ((impl_SeatsManyS x44).bind fun x50 => some (x50 == x8))))) else some false).bind fun b55 => some b55)).bind fun b56 => ((if b56 then some (decide (x8 ≤ (List.length x2 : Int))) else some false).bind fun b57 => ((if b57 then ((laws_aliveS).bind fun x58 => some x58) else some false).bind fun b63 => (some b63))))))))))
end Go.Proofs.YtidhmbmollkhdaaDoor
