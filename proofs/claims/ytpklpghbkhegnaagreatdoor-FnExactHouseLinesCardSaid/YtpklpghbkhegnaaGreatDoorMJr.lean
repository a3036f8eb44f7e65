import Derived.Test.YtpklpghbkhegnaaGreatDoorMTx
import Derived.Test.YtpklpghbkhegnaaGreatDoorMWk
/- (nothing of this text is needed here) -/

/- (nothing of this text is needed here) -/

