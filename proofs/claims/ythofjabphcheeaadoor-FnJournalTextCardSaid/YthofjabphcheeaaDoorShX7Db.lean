/- Shallow functions, printed by a program off the translation. -/
import Derived.Test.YthofjabphcheeaaDoorJText
set_option linter.unusedVariables false
set_option maxRecDepth 10000
namespace Go.Proofs.YthofjabphcheeaaDoor
open Go Go.RowKit
noncomputable def laws_FnJournalTextS (p0 : List Int) : Option Bool :=
  (if (decide ((List.length p0 : Int) > 1048576)) then (some true) else ((spec_DrawJournalTextS p0).bind fun x2 => ((impl_JournalTextS x2).bind fun x8 => ((spec_JournalTextS x2).bind fun x13 => (if (x8 != x13) then (some false) else (if (x8 == ([] : List UInt8)) then ((laws_aliveS).bind fun x20 => (some x20)) else ((impl_ReadJournalS x8).bind fun x25 => ((laws_sameDeedsS x25.1 x2).bind fun x31 => (some (x31 && (x25.2 == (List.length x8 : Int))))))))))))
end Go.Proofs.YthofjabphcheeaaDoor
