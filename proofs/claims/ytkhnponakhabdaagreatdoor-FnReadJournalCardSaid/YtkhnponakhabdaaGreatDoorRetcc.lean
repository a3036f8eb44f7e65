/- (nothing of this text is needed here) -/
import Derived.Test.YtkhnponakhabdaaGreatDoorRany
