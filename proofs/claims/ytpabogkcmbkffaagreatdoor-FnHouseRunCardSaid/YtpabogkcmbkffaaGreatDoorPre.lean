/- What the shallow functions rest on. Own work. -/
import Derived.Test.YtpabogkcmbkffaaGreatDoorStr
import Derived.Test.YtpabogkcmbkffaaGreatDoorGlob
import Derived.Test.YtpabogkcmbkffaaGreatDoorDel
namespace Go.Proofs.YtpabogkcmbkffaaGreatDoor
abbrev LI := List (Int × (List (Int × Int)) × Int)
abbrev LT := List (Int × (List (Int × Int)) × (List Int))
abbrev LP := List (Int × Int)
end Go.Proofs.YtpabogkcmbkffaaGreatDoor
