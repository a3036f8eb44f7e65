/- Lists of deeds: compared with themselves, marked, held. Own work; no program in sight. -/
import Derived.Test.YtpabogkcmbkffaaGreatDoorMPl
set_option linter.unusedVariables false
namespace Go.Proofs.YtpabogkcmbkffaaGreatDoor
open Go Go.RowKit
abbrev HDeed := Int × Int × Int × Int
end Go.Proofs.YtpabogkcmbkffaaGreatDoor
