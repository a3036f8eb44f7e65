/- What the shallow functions rest on. Own work. -/
import Derived.Test.YtpklpghbkhegnaaGreatDoorStr
import Derived.Test.YtpklpghbkhegnaaGreatDoorGlob
import Derived.Test.YtpklpghbkhegnaaGreatDoorDel
namespace Go.Proofs.YtpklpghbkhegnaaGreatDoor
abbrev LI := List (Int × (List (Int × Int)) × Int)
abbrev LT := List (Int × (List (Int × Int)) × (List Int))
abbrev LP := List (Int × Int)
end Go.Proofs.YtpklpghbkhegnaaGreatDoor
