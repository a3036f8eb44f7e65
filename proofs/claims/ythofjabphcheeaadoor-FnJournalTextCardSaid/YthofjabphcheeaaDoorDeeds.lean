/- Lists of deeds: compared with themselves, marked, held. Own work; no program in sight. -/
import Derived.Test.YthofjabphcheeaaDoorMPl
set_option linter.unusedVariables false
namespace Go.Proofs.YthofjabphcheeaaDoor
open Go Go.RowKit
abbrev HDeed := Int × Int × Int × Int
end Go.Proofs.YthofjabphcheeaaDoor
