import Derived.Test.YtkhnponakhabdaaGreatDoorMTx
import Derived.Test.YtkhnponakhabdaaGreatDoorMWk
/- (nothing of this text is needed here) -/

/- (nothing of this text is needed here) -/

