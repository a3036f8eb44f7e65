/- Shallow functions, printed by a program off the translation. -/
import Derived.Test.YtidhmbmollkhdaaDoorMany
set_option linter.unusedVariables false
set_option maxRecDepth 10000
namespace Go.Proofs.YtidhmbmollkhdaaDoor
open Go Go.RowKit
noncomputable def laws_FnSeatsFirstS (p0 : List Int) : Option Bool :=
  (if (decide ((List.length p0 : Int) > 1048576)) then (some true) else ((spec_DrawSeatsFirstS p0).bind fun x2 => ((impl_SeatsFirstS x2.1 x2.2).bind fun x8 => ((spec_SeatsFirstS x2.1 x2.2).bind fun x14 => ((laws_sameIntsS x8 x14).bind fun x20 => (if (!x20) then (some false) else ((spec_QuarrelsValidS x2.1 x2.2).bind fun x26 => (if (!x26) then ((if ((List.length x8 : Int) == 0) then ((laws_aliveS).bind fun x32 => some x32) else some false).bind fun b32 => (some b32)) else ((loop (σ := Int × Int) (ρ := (Int)) (fun (s : Int × Int) => match s with | (s37, s38) => (if (decide (s38 < x2.1)) then ((geti x2.2 s38).bind fun x40 => ((laws_bitsOfS x40).bind fun x49 => (some (.inl ((if x49 > s37 then x49 else s37), IntKind.wrap .i64 (s38 + 1)))))) else (some (.inr s37)))) (0, 0)).bind fun o => match o with | p54 => ((impl_SeatsOkS x2.1 x2.2 x8).bind fun x55 => ((if x55 then ((impl_SeatsManyS x8).bind fun x57 => some (decide (x57 ≤ (IntKind.wrap .i64 (p54 + 1))))) else some false).bind fun b57 => (some b57))))))))))))
noncomputable def laws_FnSeatsOkS (p0 : List Int) : Option Bool :=
  (if (decide ((List.length p0 : Int) > 1048576)) then (some true) else ((spec_DrawSeatsOkS p0).bind fun x2 => ((impl_SeatsOkS x2.1 x2.2.1 x2.2.2).bind fun x9 => ((spec_SeatsOkS x2.1 x2.2.1 x2.2.2).bind fun x14 => (if (!(x9 == x14)) then (some false) else (if (!x9) then ((laws_aliveS).bind fun x21 => (some x21)) else ((impl_SeatsManyS x2.2.2).bind fun x26 => ((impl_SeatsLeastS x2.1 x2.2.1).bind fun x31 => ((if (decide (x31 ≤ x26)) then ((impl_CliqueMostS x2.1 x2.2.1).bind fun x33 => some (decide (x33 ≤ x26))) else some false).bind fun b33 => (some b33))))))))))
end Go.Proofs.YtidhmbmollkhdaaDoor
