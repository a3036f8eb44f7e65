/- What the shallow functions rest on. Own work. -/
import Derived.Test.YtkhnponakhabdaaGreatDoorStr
import Derived.Test.YtkhnponakhabdaaGreatDoorGlob
import Derived.Test.YtkhnponakhabdaaGreatDoorDel
namespace Go.Proofs.YtkhnponakhabdaaGreatDoor
abbrev LI := List (Int × (List (Int × Int)) × Int)
abbrev LT := List (Int × (List (Int × Int)) × (List Int))
abbrev LP := List (Int × Int)
end Go.Proofs.YtkhnponakhabdaaGreatDoor
