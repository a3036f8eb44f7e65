/- What the shallow functions rest on. Own work. -/
import Derived.Test.YtcjkbcdlpfgbgaaGreatDoorStr
import Derived.Test.YtcjkbcdlpfgbgaaGreatDoorGlob
import Derived.Test.YtcjkbcdlpfgbgaaGreatDoorDel
namespace Go.Proofs.YtcjkbcdlpfgbgaaGreatDoor
abbrev LI := List (Int × (List (Int × Int)) × Int)
abbrev LT := List (Int × (List (Int × Int)) × (List Int))
abbrev LP := List (Int × Int)
end Go.Proofs.YtcjkbcdlpfgbgaaGreatDoor
